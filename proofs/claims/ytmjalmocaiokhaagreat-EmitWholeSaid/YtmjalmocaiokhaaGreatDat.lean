/- Data of the program, as plain Lean, and how they lie in memory. No condition. -/
import Derived.Test.YtmjalmocaiokhaaGreatFwJ
set_option linter.unusedVariables false
set_option linter.unusedSimpArgs false
namespace Go.Fw
open Go

theorem add_add (a : Addr) (x y : Nat) : (a.add x).add y = a.add (x + y) := by
  unfold Addr.add
  by_cases hx : x = 0 <;> by_cases hy : y = 0 <;> simp [hx, hy, Nat.add_assoc]
theorem block_add (a : Addr) (x : Nat) : (a.add x).block = a.block := by
  unfold Addr.add; split <;> rfl
theorem add_zero' (a : Addr) : a.add 0 = a := by simp [Addr.add]

/-- Rows of 'sz' cells, one behind the other, from A on; below block B. -/
def Rows (w : World) (A : Option Addr) (sz : Nat) (rows : List (List Value)) : Prop :=
  (∀ r ∈ rows, r.length = sz) ∧ (rows ≠ [] → ∃ a, A = some a ∧ a.block < w.heap.size ∧ ∀ i r, rows[i]? = some r → ∀ j v, r[j]? = some v → w.cell? (a.add (i * sz + j)) = some v)

section
variable {w w' : World} {A : Option Addr} {sz : Nat} {rows : List (List Value)}
theorem Rows.nil : Rows w A sz [] := ⟨by simp, fun h => absurd rfl h⟩
theorem Rows.at_ (h : Rows w A sz rows) (hne : 0 < rows.length) : ∃ a, A = some a ∧ a.block < w.heap.size := by
  obtain ⟨a, h1, h2, _⟩ := h.2 (by intro e; rw [e] at hne; simp at hne)
  exact ⟨a, h1, h2⟩
theorem Rows.cell (h : Rows w A sz rows) {a : Addr} (ha : A = some a) {i j : Nat} {r : List Value} {v : Value} (hi : rows[i]? = some r) (hj : r[j]? = some v) : w.cell? (a.add (i * sz + j)) = some v := by
  obtain ⟨b, h1, h2, h3⟩ := h.2 (by rintro rfl; simp at hi)
  rw [ha] at h1; injection h1 with h1; subst h1
  exact h3 i r hi j v hj
theorem Rows.cell' (h : Rows w A sz rows) {a : Addr} (ha : A = some a) {i j : Nat} {r : List Value} {v : Value} (hi : rows[i]? = some r) (hj : r[j]? = some v) : w.cell? ((a.add (i * sz)).add j) = some v := by
  rw [add_add]; exact h.cell ha hi hj
theorem Rows.fr {S : List Nat} (h : Rows w A sz rows) (hf : Fr S w w') (hs : ∀ a, A = some a → a.block ∉ S) : Rows w' A sz rows := by
  refine ⟨h.1, fun hne => ?_⟩
  obtain ⟨a, h1, h2, h3⟩ := h.2 hne
  refine ⟨a, h1, Nat.lt_of_lt_of_le h2 hf.size, fun i r hi j v hj => ?_⟩
  rw [hf.cell (by rw [block_add]; exact h2) (by rw [block_add]; exact hs a h1)]
  exact h3 i r hi j v hj
theorem Rows.fr0 (h : Rows w A sz rows) (hf : Fr [] w w') : Rows w' A sz rows := h.fr hf (by simp)
end

/-- Nd: of a tree. -/
structure Nd where
  op : Int
  kind : Int
  n : Int
  m : Int
  text : ByteArray
  at_ : Int
  kids : Int
deriving Inhabited

def Nd.cells (x : Nd) : List Value := [.int .i8 x.op, .int .i8 x.kind, .int .i64 x.n, .int .i64 x.m, .string x.text, .int .i64 x.at_, .int .i64 x.kids]

/-- A slice of nodes. -/
def NodesAt (w : World) (A : Option Addr) (t : List Nd) : Prop := Rows w A 7 (t.map Nd.cells)

theorem svi {k : IntKind} {a b : Int} (h : a = b) : SV.v (.int k a) = SV.v (.int k b) := by rw [h]
theorem vi {k : IntKind} {a b : Int} (h : a = b) : Value.int k a = Value.int k b := by rw [h]

section
variable {w : World} {A : Option Addr} {t : List Nd}
theorem NodesAt.idx (h : NodesAt w A t) {i : Nat} (hi : i < t.length) : ∃ a, A = some a ∧ a.block < w.heap.size := Rows.at_ h (by rw [List.length_map]; omega)
theorem NodesAt.cell (h : NodesAt w A t) {a : Addr} (ha : A = some a) {i : Nat} (hi : i < t.length) (j : Nat) {v : Value} (hj : t[i].cells[j]? = some v) : w.cell? ((a.add (i * 7)).add j) = some v :=
  Rows.cell' h ha (by rw [List.getElem?_map, List.getElem?_eq_getElem hi]; rfl) hj
/-- The address of a node. -/
theorem EvIdx.node (h : NodesAt w A t) {n : Nat} {i : Int} {K : Addr → Prop} (h0 : 0 ≤ i) (h1 : i < n) (hn : n = t.length)
    (k : ∀ a, A = some a → K (a.add (i.toNat * 7))) : EvIdx A n i 7 K := by
  obtain ⟨a, ha, _⟩ := h.idx (i := i.toNat) (by omega)
  exact ⟨a, ha, h0, h1, k a ha⟩
/-- A field of a node. -/
theorem EvLd.node (h : NodesAt w A t) {a : Addr} (ha : A = some a) {i : Nat} (hi : i < t.length) {j : Nat} {K : Value → Prop} {v : Value} (hj : t[i].cells[j]? = some v) (k : K v) : EvLd w ((a.add (i * 7)).add j) K :=
  ⟨v, h.cell ha hi j hj, k⟩
end

/-- A slice of ints. -/
def IntsAt (w : World) (A : Option Addr) (xs : List Int) : Prop := Rows w A 1 (xs.map fun x => [.int .i64 x])
section
variable {w : World} {A : Option Addr} {xs : List Int}
theorem EvIdx.ints (h : IntsAt w A xs) {n sz : Nat} {i : Int} {K : Addr → Prop} (h0 : 0 ≤ i) (h1 : i < n) (hn : n = xs.length) (hs : sz = 1) (k : ∀ a, A = some a → K (a.add i.toNat)) : EvIdx A n i sz K := by
  obtain ⟨a, ha, _⟩ := Rows.at_ h (by rw [List.length_map]; omega)
  exact ⟨a, ha, h0, h1, by rw [hs, Nat.mul_one]; exact k a ha⟩
theorem IntsAt.cell (h : IntsAt w A xs) {a : Addr} (ha : A = some a) {i : Nat} {x : Int} (hi : xs[i]? = some x) : w.cell? (a.add i) = some (.int .i64 x) := by
  have := Rows.cell h ha (i := i) (j := 0) (r := [.int .i64 x]) (v := .int .i64 x) (by rw [List.getElem?_map, hi]; rfl) rfl
  simpa using this
theorem EvLd.ints (h : IntsAt w A xs) {a : Addr} (ha : A = some a) {i : Nat} {K : Value → Prop} {x : Int} (hi : xs[i]? = some x) (k : K (.int .i64 x)) : EvLd w (a.add i) K := ⟨_, h.cell ha hi, k⟩
end

theorem map_get {α β : Type} {f : α → β} {l : List α} {i : Nat} {x : α} (h : l[i]? = some x) : (l.map f)[i]? = some (f x) := by rw [List.getElem?_map, h]; rfl
theorem get_some {α : Type} {l : List α} {i : Nat} (h : i < l.length) : l[i]? = some l[i] := List.getElem?_eq_getElem h

end Go.Fw
