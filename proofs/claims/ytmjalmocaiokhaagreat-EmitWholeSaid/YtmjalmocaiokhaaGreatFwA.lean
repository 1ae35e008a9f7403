/- The walking layer of this proof, part A: tables of types, states, and how one operation is walked. No condition. -/
import Derived.WalkKit
import Derived.OrdersHeld
import Derived.ChangeKeysEq
set_option linter.unusedVariables false
set_option linter.unusedSimpArgs false
namespace Go.Fw
open Go

/-! ### Types -/

inductive Cls where
  | no | int (k : IntKind) | bool | str | ptr (e : Nat) | slice (e : Nat) | array (n e : Nat) | map (k e : Nat) | struct | func | iface | other
  deriving DecidableEq

structure TInfo where
  cls : Cls
  size : Nat
  bytes : Nat
  agg : Bool
  zero : List Value
  fields : List (Nat × Nat × Bool)

def TInfo.none : TInfo := ⟨.no, 0, 0, false, [], []⟩

def clsOf : TypeDesc → Cls
  | .int k => .int k | .bool => .bool | .string => .str | .pointer e => .ptr e | .slice e => .slice e | .array n e => .array n e
  | .map k e => .map k e | .struct _ => .struct | .func .. => .func | .interface _ => .iface | _ => .other

def isAggD : TypeDesc → Bool
  | .struct _ | .array .. => true
  | _ => false

def vEq : Value → Value → Bool
  | .int k a, .int k' b => k == k' && a == b
  | .bool a, .bool b => a == b
  | .string a, .string b => a.data.toList == b.data.toList
  | .pointer none, .pointer none => true
  | .slice none 0 0, .slice none 0 0 => true
  | .map none, .map none => true
  | .nilFunc, .nilFunc => true
  | .nilIface, .nilIface => true
  | _, _ => false

theorem vEq_eq {a b : Value} (h : vEq a b = true) : a = b := by
  unfold vEq at h
  split at h <;> simp_all
  rename_i x y
  cases x; cases y
  simp_all

def vsEq : List Value → List Value → Bool
  | [], [] => true
  | a :: x, b :: y => vEq a b && vsEq x y
  | _, _ => false

theorem vsEq_eq : ∀ {a b : List Value}, vsEq a b = true → a = b
  | [], [], _ => rfl
  | a :: x, b :: y, h => by
    simp only [vsEq, Bool.and_eq_true] at h
    rw [vEq_eq h.1, vsEq_eq h.2]
  | [], _ :: _, h => by simp [vsEq] at h
  | _ :: _, [], h => by simp [vsEq] at h

def fieldInfo (P : Program) (f : Field) : Nat × Nat × Bool :=
  match P.underlying f.type with
  | some d => (f.offset, P.cellsOf f.type, isAggD d)
  | none => (f.offset, 0, false)

/-- Does the row of a table say what the program's own table says? -/
def chkT (P : Program) (t : Nat) (i : TInfo) : Bool :=
  match i.cls with
  | .no => true
  | c => match P.underlying t, P.info? t with
    | some d, some j => clsOf d == c && i.agg == isAggD d && i.size == j.size && i.bytes == j.bytes &&
        (match j.zero with | some z => vsEq z.cells.toList i.zero | none => false) &&
        (match d with | .struct fs => i.fields == (fs.toList.map (fieldInfo P)) && fs.toList.all (fun f => (P.info? f.type).isSome) | _ => true)
    | _, _ => false

/-- What a row that passed the check says. -/
structure TOk (P : Program) (t : Nat) (i : TInfo) : Prop where
  und : ∃ d, P.underlying t = some d ∧ clsOf d = i.cls ∧ i.agg = isAggD d ∧ (∀ fs, d = .struct fs → i.fields = fs.toList.map (fieldInfo P) ∧ ∀ f ∈ fs.toList, ∃ j, P.info? f.type = some j)
  info : ∃ j, P.info? t = some j ∧ j.size = i.size ∧ j.bytes = i.bytes ∧ ∃ z, j.zero = some z ∧ z.cells.toList = i.zero

theorem tok_of_chk {P : Program} {t : Nat} {i : TInfo} (h : chkT P t i = true) (hn : i.cls ≠ .no) : TOk P t i := by
  unfold chkT at h
  split at h
  · exact absurd (by assumption) hn
  · split at h
    · rename_i d j hu hi
      simp only [Bool.and_eq_true, beq_iff_eq] at h
      obtain ⟨⟨⟨⟨⟨h1, h2⟩, h3⟩, h3b⟩, h4⟩, h5⟩ := h
      refine ⟨⟨d, hu, h1, h2, ?_⟩, ⟨j, hi, h3.symm, h3b.symm, ?_⟩⟩
      · rintro fs rfl
        simp only [Bool.and_eq_true, beq_iff_eq, List.all_eq_true] at h5
        exact ⟨h5.1, fun f hf => Option.isSome_iff_exists.1 (h5.2 f hf)⟩
      · split at h4
        · rename_i z hz
          exact ⟨z, hz, vsEq_eq h4⟩
        · cases h4
    · cases h

/-! ### States -/

inductive SV where
  | v (x : Value)
  | bp (i r o : Nat)
  | kb (b : Bool)

def SV.den : SV → Value
  | .v x => x
  | .bp _ r o => .pointer (some ⟨r, o, none⟩)
  | .kb b => .bool b

structure Box where
  i : Nat
  r : Nat
  T : Nat
  cs : List Value

structure St where
  ρ : List (Nat × SV)
  bx : List Box
  nb : Nat

structure Ctx where
  ty : Nat → TInfo
  n : Nat
  esc : List Nat

noncomputable def nmem (t : Nat) (l : List Nat) : Bool := List.rec (motive := fun _ => Bool) false (fun x _ ih => bif Nat.beq x t then true else ih) l

noncomputable def look (ρ : List (Nat × SV)) (t : Nat) : Option SV :=
  List.rec (motive := fun _ => Option SV) none (fun p _ ih => bif Nat.beq p.1 t then some p.2 else ih) ρ

def lk (ρ : List (Nat × SV)) (t : Nat) (K : SV → Prop) : Prop :=
  List.rec (motive := fun _ => Prop) False (fun p _ ih => Prod.casesOn p fun a s => bif Nat.beq a t then K s else ih) ρ

theorem lk_iff {ρ : List (Nat × SV)} {t : Nat} {K : SV → Prop} (h : lk ρ t K) : ∃ s, look ρ t = some s ∧ K s := by
  induction ρ with
  | nil => exact h.elim
  | cons p ρ ih =>
    obtain ⟨a, s⟩ := p
    simp only [lk, look] at *
    cases hb : Nat.beq a t
    · simp only [hb, cond_false] at *
      exact ih h
    · simp only [hb, cond_true] at *
      exact ⟨s, rfl, h⟩

noncomputable def boxOf (bx : List Box) (i : Nat) : Option Box :=
  List.rec (motive := fun _ => Option Box) none (fun b _ ih => bif Nat.beq b.i i then some b else ih) bx

def lkb (bx : List Box) (i : Nat) (K : Nat → Nat → List Value → Prop) : Prop :=
  List.rec (motive := fun _ => Prop) False (fun b _ ih => Box.casesOn b fun j r T cs => bif Nat.beq j i then K r T cs else ih) bx

theorem lkb_iff {bx : List Box} {i : Nat} {K : Nat → Nat → List Value → Prop} (h : lkb bx i K) : ∃ b, b ∈ bx ∧ b.i = i ∧ K b.r b.T b.cs := by
  induction bx with
  | nil => exact h.elim
  | cons b bx ih =>
    obtain ⟨j, r, T, cs⟩ := b
    simp only [lkb] at *
    cases hb : Nat.beq j i
    · simp only [hb, cond_false] at h
      obtain ⟨b, h1, h2⟩ := ih h
      exact ⟨b, List.mem_cons_of_mem _ h1, h2⟩
    · simp only [hb, cond_true] at h
      exact ⟨_, List.mem_cons_self, Nat.eq_of_beq_eq_true hb, h⟩

/-- A list of values, its spine laid open. -/
def force (l : List Value) (K : List Value → Prop) : Prop :=
  (List.rec (motive := fun _ => (List Value → Prop) → Prop) (fun k => k []) (fun x _ ih k => ih fun ys => k (x :: ys)) l : (List Value → Prop) → Prop) K

theorem force_iff {l : List Value} {K : List Value → Prop} : force l K = K l := by
  unfold force
  induction l generalizing K with
  | nil => rfl
  | cons x l ih => exact ih (K := fun ys => K (x :: ys))

def setL (l : List Value) (o : Nat) (v : Value) (K : List Value → Prop) : Prop :=
  (List.rec (motive := fun _ => Nat → (List Value → Prop) → Prop) (fun _ _ => False)
    (fun x xs ih n k => bif Nat.beq n 0 then k (v :: xs) else ih (Nat.sub n 1) fun ys => k (x :: ys)) l : Nat → (List Value → Prop) → Prop) o K

theorem setL_iff {l : List Value} {o : Nat} {v : Value} {K : List Value → Prop} (h : setL l o v K) : o < l.length ∧ K (l.set o v) := by
  unfold setL at h
  induction l generalizing o K with
  | nil => exact h.elim
  | cons x l ih =>
    cases o with
    | zero => exact ⟨by simp, h⟩
    | succ o =>
      have h' := ih (o := o) (K := fun ys => K (x :: ys)) h
      exact ⟨by simpa using h'.1, h'.2⟩

def setsL (l : List Value) (o : Nat) (vs : List Value) (K : List Value → Prop) : Prop :=
  (List.rec (motive := fun _ => List Value → Nat → Prop) (fun l _ => K l) (fun v _ ih l o => setL l o v fun l' => ih l' (Nat.add o 1)) vs : List Value → Nat → Prop) l o

def setsOf : List Value → Nat → List Value → List Value
  | l, _, [] => l
  | l, o, v :: vs => setsOf (l.set o v) (o + 1) vs

theorem length_setsOf : ∀ (vs l : List Value) (o : Nat), (setsOf l o vs).length = l.length
  | [], _, _ => rfl
  | v :: vs, l, o => by rw [setsOf, length_setsOf vs]; simp

theorem setsL_iff {vs : List Value} {K : List Value → Prop} : ∀ {l : List Value} {o : Nat}, setsL l o vs K → o + vs.length ≤ l.length ∨ vs = [] := by
  induction vs with
  | nil => intro l o h; exact .inr rfl
  | cons v vs ih =>
    intro l o h
    have h' : setL l o v (fun l' => setsL l' (o + 1) vs K) := h
    have := setL_iff h'
    rcases ih this.2 with h2 | h2
    · simp at h2; left; simp; omega
    · subst h2; left; simp; omega

theorem setsL_out {vs : List Value} {K : List Value → Prop} : ∀ {l : List Value} {o : Nat}, setsL l o vs K → K (setsOf l o vs) := by
  induction vs with
  | nil => intro l o h; exact h
  | cons v vs ih =>
    intro l o h
    have h' : setL l o v (fun l' => setsL l' (o + 1) vs K) := h
    exact ih (setL_iff h').2

/-- n members from place o on. -/
def takeL (l : List Value) (o n : Nat) (K : List Value → Prop) : Prop := force ((l.drop o).take n) fun ys => bif Nat.beq ys.length n then K ys else False

def updB (bx : List Box) (i : Nat) (f : List Value → (List Value → Prop) → Prop) (K : List Box → Prop) : Prop :=
  (List.rec (motive := fun _ => (List Box → Prop) → Prop) (fun _ => False)
    (fun b bs ih k => Box.casesOn b fun j r T cs => bif Nat.beq j i then f cs (fun cs' => k (⟨j, r, T, cs'⟩ :: bs)) else ih fun bs' => k (⟨j, r, T, cs⟩ :: bs')) bx : (List Box → Prop) → Prop) K

theorem updB_iff {i : Nat} {f : List Value → (List Value → Prop) → Prop} {K : List Box → Prop} : ∀ {bx : List Box}, updB bx i f K →
    ∃ pre j r T cs suf, bx = pre ++ ⟨j, r, T, cs⟩ :: suf ∧ j = i ∧ f cs (fun cs' => K (pre ++ ⟨j, r, T, cs'⟩ :: suf)) := by
  intro bx
  induction bx generalizing K with
  | nil => intro h; exact h.elim
  | cons b bx ih =>
    obtain ⟨j, r, T, cs⟩ := b
    intro h
    have h' : bif Nat.beq j i then f cs (fun cs' => K (⟨j, r, T, cs'⟩ :: bx)) else updB bx i f (fun bs' => K (⟨j, r, T, cs⟩ :: bs')) := h
    cases hb : Nat.beq j i
    · simp only [hb, cond_false] at h'
      obtain ⟨pre, j', r', T', cs', suf, e, hj, hf⟩ := ih h'
      exact ⟨⟨j, r, T, cs⟩ :: pre, j', r', T', cs', suf, by rw [e]; rfl, hj, hf⟩
    · simp only [hb, cond_true] at h'
      exact ⟨[], j, r, T, cs, bx, rfl, Nat.eq_of_beq_eq_true hb, h'⟩

def rsOf (bx : List Box) : List Nat := bx.map (·.r)

/-! ### What stands between operations: frames -/

/-- From w to w' no block that stood is changed, but those of S. -/
structure Fr (S : List Nat) (w w' : World) : Prop where
  os : w'.os = w.os
  tape : w'.tape = w.tape
  output : w'.output = w.output
  size : w.heap.size ≤ w'.heap.size
  block : ∀ k, k < w.heap.size → k ∉ S → w'.heap[k]? = w.heap[k]?

theorem Fr.refl (S : List Nat) (w : World) : Fr S w w := ⟨rfl, rfl, rfl, Nat.le_refl _, fun _ _ _ => rfl⟩
theorem Fr.trans {S : List Nat} {a b c : World} (h : Fr S a b) (k : Fr S b c) : Fr S a c :=
  ⟨k.os.trans h.os, k.tape.trans h.tape, k.output.trans h.output, Nat.le_trans h.size k.size,
   fun i hi hs => (k.block i (Nat.lt_of_lt_of_le hi h.size) hs).trans (h.block i hi hs)⟩
theorem Fr.mono {S S' : List Nat} {w w' : World} (h : Fr S w w') (hs : ∀ x ∈ S, x ∈ S') : Fr S' w w' :=
  ⟨h.os, h.tape, h.output, h.size, fun i hi hn => h.block i hi fun hm => hn (hs i hm)⟩
theorem Fr.nil {S : List Nat} {w w' : World} (h : Fr [] w w') : Fr S w w' := h.mono (by simp)
/-- What is changed beyond w's own blocks does not count. -/
theorem Fr.trans' {S S' : List Nat} {a b c : World} (h : Fr S a b) (k : Fr S' b c) (hs : ∀ x ∈ S', x < a.heap.size → x ∈ S) : Fr S a c :=
  ⟨k.os.trans h.os, k.tape.trans h.tape, k.output.trans h.output, Nat.le_trans h.size k.size,
   fun i hi hn => (k.block i (Nat.lt_of_lt_of_le hi h.size) (fun hm => hn (hs i hm hi))).trans (h.block i hi hn)⟩
theorem Fr.cell {S : List Nat} {w w' : World} (h : Fr S w w') {a : Addr} (ha : a.block < w.heap.size) (hs : a.block ∉ S) : w'.cell? a = w.cell? a :=
  World.cell?_of_block (h.block _ ha hs)
theorem Fr.frozen {S : List Nat} {w w' : World} (h : Fr S w w') {a : Addr} (ha : a.block < w.heap.size) (hs : a.block ∉ S) : w'.frozen? a = w.frozen? a :=
  World.frozen?_of_block (h.block _ ha hs)
theorem Fr.of_below {w w' : World} (h : Go.RowKit.Below w.heap.size w w') : Fr [] w w' :=
  ⟨h.os, h.tape, h.output, h.size, fun k hk _ => h.block k hk⟩
theorem Fr.below {w w' : World} (h : Fr [] w w') : Go.RowKit.Below w.heap.size w w' :=
  ⟨h.os, h.tape, h.output, h.size, fun k hk => h.block k hk (by simp)⟩
theorem Fr.of_grown {w w' : World} {row : Option Nat} (h : w.grownBy w' row) : Fr row.toList w w' :=
  ⟨h.os, h.tape, h.output, h.size, fun k hk hn => h.block k hk (by rintro rfl; simp at hn)⟩
theorem Fr.alloc (w : World) (o : Obj) : Fr [] w (w.alloc o) :=
  ⟨rfl, rfl, rfl, by show _ ≤ (w.heap.push o).size; simp, fun k hk _ => Go.RowKit.Below.heap_alloc w o k hk⟩
theorem Fr.drew (w : World) : Fr [] w w.drew := ⟨rfl, rfl, rfl, Nat.le_refl _, fun _ _ _ => rfl⟩
theorem Fr.setCell (w : World) (a : Addr) (v : Value) : Fr [a.block] w (w.setCell a v) :=
  ⟨rfl, rfl, rfl, by simp [World.setCell], fun k hk hn => Go.RowKit.Below.heap_setCell _ _ _ _ (by simpa using hn)⟩

/-! ### Events: what a walk asks of the prover -/

def inL (L : List Nat) (x : Nat) : Prop := x ∈ L

/-- The walk's own blocks L hold what they held. -/
def Keep (L : List Nat) (w w' : World) : Prop := ∀ r ∈ L, r < w.heap.size → w'.heap[r]? = w.heap[r]?

theorem Keep.of_fr {L S : List Nat} {w w' : World} (h : Fr S w w') (hd : ∀ r ∈ L, r ∉ S) : Keep L w w' := fun r hr hl => h.block r hl (hd r hr)
theorem Keep.of_fr0 {L : List Nat} {w w' : World} (h : Fr [] w w') : Keep L w w' := fun r hr hl => h.block r hl (by simp)

structure EvSplit (b : Bool) (K : Bool → Prop) : Prop where h : K b
structure EvAr (k : IntKind) (n : Int) (K : Int → Prop) : Prop where h : K (k.wrap n)
structure EvNz (b : Int) (K : Prop) : Prop where
  ne : b ≠ 0
  h : K
structure EvSh (y : Int) (K : Nat → Prop) : Prop where
  nn : 0 ≤ y
  h : K y.toNat
structure EvIdx (A : Option Addr) (n : Nat) (i : Int) (sz : Nat) (K : Addr → Prop) : Prop where
  h : ∃ a, A = some a ∧ 0 ≤ i ∧ i < n ∧ K (a.add (i.toNat * sz))
structure EvStr (s : ByteArray) (i : Int) (K : Int → Prop) : Prop where
  h : 0 ≤ i ∧ ∃ b, s[i.toNat]? = some b ∧ K b.toNat
structure EvArr (cs : List Value) (i : Int) (len : Nat) (K : Value → Prop) : Prop where
  h : 0 ≤ i ∧ i < len ∧ ∃ v, cs[i.toNat]? = some v ∧ K v
structure EvLd (w : World) (a : Addr) (K : Value → Prop) : Prop where
  h : ∃ v, w.cell? a = some v ∧ K v
structure EvLdN (w : World) (a : Addr) (n : Nat) (K : List Value → Prop) : Prop where
  h : ∃ cs : List Value, cs.length = n ∧ (∀ j v, cs[j]? = some v → w.cell? (a.add j) = some v) ∧ K cs
structure EvTLd (S : World → Prop) (a : Addr) (K : Value → Prop) : Prop where
  h : ∃ v, (∀ w, S w → w.cell? a = some v) ∧ K v
structure EvTLdN (S : World → Prop) (a : Addr) (n : Nat) (K : List Value → Prop) : Prop where
  h : ∃ cs : List Value, cs.length = n ∧ (∀ w, S w → ∀ j v, cs[j]? = some v → w.cell? (a.add j) = some v) ∧ K cs
structure EvRd (P : Program) (w : World) (s : Sem Value) (K : Value → Prop) : Prop where
  h : ∃ v, s.run P w = .ok v w ∧ K v
structure EvTRd (P : Program) (S : World → Prop) (s : Sem Value) (K : Value → Prop) : Prop where
  h : ∃ v, (∀ w, S w → s.run P w = .ok v w) ∧ K v
structure EvSt (w : World) (a : Addr) (v : Value) (L : List Nat) (K : World → Prop) : Prop where
  h : v.oneCell' = true ∧ (∃ u, w.cell? a = some u) ∧ w.frozen? a = false ∧ (∀ r ∈ L, r ≠ a.block) ∧ K (w.setCell a v)
structure EvNew (w : World) (o : Obj) (K : Nat → World → Prop) : Prop where h : K w.heap.size (w.alloc o)
structure EvPrim (P : Program) (w : World) (s : Sem Value) (L : List Nat) (K : Value → World → Prop) : Prop where
  h : ∃ v w', s.run P w = .ok v w' ∧ Keep L w w' ∧ K v w'
structure EvDo (P : Program) (w : World) (s : Sem Unit) (L : List Nat) (K : World → Prop) : Prop where
  h : ∃ w', s.run P w = .ok () w' ∧ Keep L w w' ∧ K w'
/-- Function f has a body: a call of it enters it. -/
def Enters (P : Program) (f : Nat) : Prop := ∀ (args : Array Value) (w : World), (callFunc f args).run P w = .ok (.enter f args) w
structure EvCall (P : Program) (f : Nat) (args : Array Value) (w : World) (L : List Nat) (K : Value → World → Prop) : Prop where
  en : Enters P f
  h : Calls P f args w fun e w' => ∃ v, e = .returned v ∧ Keep L w w' ∧ K v w'
structure EvSl (lo hi mx cap : Int) (K : Nat → Nat → Nat → Prop) : Prop where
  h : 0 ≤ lo ∧ lo ≤ hi ∧ hi ≤ mx ∧ mx ≤ cap ∧ K lo.toNat hi.toNat mx.toNat

end Go.Fw
