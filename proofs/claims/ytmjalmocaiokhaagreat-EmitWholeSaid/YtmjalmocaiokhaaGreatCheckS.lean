/- Package check: what Able looks at, in plain Lean. No condition. -/
import Derived.Test.YtmjalmocaiokhaaGreatLook
import Derived.Test.YtmjalmocaiokhaaGreatFo
set_option linter.unusedVariables false
set_option linter.unusedSimpArgs false
set_option maxRecDepth 100000
namespace Go.Proofs.Tab
open Go Go.Fw

abbrev Kh := Option (Int × Int)

def argsL : List Int → List Nd → List Kh → Int → Int → Option Int
  | a :: al, y :: ys, e :: es, v, h =>
    if a = -1 then (if y.op == 51 && y.kids == 0 && decide (y.n ≥ 0) && decide (y.n ≤ 3) && likeB y 0 y.n 0 then argsL al ys es v h else none)
    else if a = -2 then (if y.op == 52 && y.kids == 0 && rightL y.text && likeB y 0 0 0 then argsL al ys es v h else none)
    else e.bind fun q => if q.1 = a then argsL al ys es (v + 1) (if v + q.2 > h then v + q.2 else h) else none
  | _, _, _, _, h => some h

def callL (s : Sg) (x : Nd) (hd : List Nd) (ex : List Kh) : Option Int :=
  if hd.length == s.args.length && likeB x s.tell x.n 0 then argsL s.args hd ex 0 0 else none

def manyL (op : Int) : Nat := if op = 34 ∨ op = 35 then 1 else 2
def wantL (r : Kh) (kind : Int) : Option Int := r.bind fun q => if q.1 = kind then some q.2 else none
def kh (ex : List Kh) (j : Nat) : Kh := (ex[j]?).getD none
def upL (op : Int) (h : Int) : Int := if op ≠ 37 ∧ op ≠ 36 then h + 1 else h
def maxL (a b : Int) : Int := if b > a then b else a
/-- What an operator's first operand is. -/
def firstL (op : Int) (e : Kh) : Kh := if op = 38 ∨ op = 39 then e.bind fun q => if q.1 ≠ 6 then some q else none else (wantL e (operOf op)).map fun h => (operOf op, h)
def operL (x : Nd) (hd : List Nd) (ex : List Kh) : Kh :=
  if decide (x.op ≥ 34) && decide (x.op ≤ 48) && hd.length == manyL x.op && likeB x (operTo x.op) 0 0 then
    (firstL x.op (kh ex 0)).bind fun q => if manyL x.op = 2 then (wantL (kh ex 1) q.1).map fun h2 => (operTo x.op, maxL q.2 (upL x.op h2)) else some (operTo x.op, q.2)
  else none

/-- An expression: its kind, its height. -/
def stepE (sl : List Int) (se : Int → Option Bool) (x : Nd) (hd : List Nd) (ex : List Kh) : Kh :=
  if x.op = 30 then (if decide (x.n ≥ 0) && hd.length == 0 && likeB x 1 x.n 0 then some (1, 1) else none)
  else if x.op = 31 ∨ x.op = 32 then (if hd.length == 0 && likeB x 2 0 0 then some (2, 1) else none)
  else if x.op = 33 then (if (se x.n).isSome && decide (x.n ≥ 0) && decide (x.n < 1048576) && hd.length == 0 && likeB x (sl.getD x.n.toNat 0) x.n 0 then some (sl.getD x.n.toNat 0, 1) else none)
  else if x.op = 49 then (signL fieldsL x.n).bind fun s => if hd.length == 1 && likeB x s.tell x.n 0 then (wantL (kh ex 0) (s.args.getD 0 0)).map fun h => (s.tell, h) else none
  else if x.op = 50 then (signL funcsL x.n).bind fun s => (callL s x hd ex).map fun h => (s.tell, maxL 1 h)
  else operL x hd ex

def exprs (sl : List Int) (se : Int → Option Bool) : Fo → List Kh
  | .nil => []
  | .cons x ks r => stepE sl se x ks.heads (exprs sl se ks) :: exprs sl se r
theorem exprs_length (sl : List Int) (se : Int → Option Bool) : ∀ f : Fo, (exprs sl se f).length = f.len
  | .nil => rfl
  | .cons x ks r => by simp [exprs, Fo.len, exprs_length sl se r]; omega

theorem mustL_mustL (a b : Bool) (s : Lk) : mustL a (mustL b s) = mustL (b && a) s := by
  unfold mustL
  cases s with | mk sl se bd => cases a <;> cases b <;> cases bd <;> rfl
theorem mustL_slots (a : Bool) (s : Lk) : (mustL a s).slots = s.slots := rfl
theorem mustL_seen (a : Bool) (s : Lk) : (mustL a s).seen = s.seen := rfl
theorem mustL_true (s : Lk) : mustL true s = s := by cases s with | mk a b c => cases c <;> rfl
theorem mustL_bad {s : Lk} (h : s.bad = true) (b : Bool) : mustL b s = s := by cases s with | mk a b c => simp at h; subst h; rfl
theorem mustL_congr {s : Lk} {a b : Bool} (h : s.bad = false → a = b) : mustL a s = mustL b s := by
  cases hb : s.bad
  · rw [h hb]
  · rw [mustL_bad hb, mustL_bad hb]
theorem mustL_ok {s : Lk} {b : Bool} (h : (mustL b s).bad = false) : s.bad = false ∧ b = true := by
  unfold mustL at h; simp at h; exact h

theorem mustL_stop {s : Lk} {a : Bool} (h : (mustL a s).bad = true) (b : Bool) : mustL a s = mustL (a && b) s := mustL_congr fun hb => by
  cases a
  · rfl
  · rw [mustL_true, hb] at h; cases h

def SeenIn (s : Lk) : Prop := ∀ k b, s.seen k = some b → 0 ≤ k ∧ k < s.slots.length

/-- The contract of an expression at a place. -/
def ExprOk (t : List Nd) (i : Nat) (x : Nd) (ks : Fo) : Prop :=
  ∀ {B kb mr : Nat} {At : Option Addr} {ct : Nat} {vs : Value} {s : Lk} {w : World}, LK B kb mr At ct t vs s w → SeenIn s → s.slots.length ≤ 1000000 →
    Ret Tryz.prog 93 [kp kb, .int .i64 i] w [kb] fun v w' => ∃ k h, v = .tuple #[.int .i8 k, .int .i64 h] ∧ 0 ≤ h ∧ h ≤ t.length - i ∧
      LK B kb mr At ct t vs (mustL (stepE s.slots s.seen x ks.heads (exprs s.slots s.seen ks)).isSome s) w' ∧
      (s.bad = false → ∀ q, stepE s.slots s.seen x ks.heads (exprs s.slots s.seen ks) = some q → q = (k, h))

/-- The j-th tree of a forest that stands in t. -/
theorem fo_tree {t : List Nd} (sl : List Int) (se : Int → Option Bool) : ∀ {f : Fo} {i j : Nat}, FoAt t i f → j < f.len → ∃ p y kk r, (f.at_ i)[j]? = some (p, y, kk) ∧ (f.pos i)[j]? = some p ∧ f.heads[j]? = some y ∧
    (exprs sl se f)[j]? = some (stepE sl se y kk.heads (exprs sl se kk)) ∧ FoAt t p (.cons y kk r) ∧ i + j ≤ p
  | .nil, _, _, _, h => by simp [Fo.len] at h
  | .cons x ks r, i, 0, h, _ => ⟨i, x, ks, r, rfl, rfl, rfl, rfl, h, by omega⟩
  | .cons x ks r, i, j + 1, h, hj => by
    obtain ⟨p, y, kk, r', h1, h2, h3, h4, h5, h6⟩ := fo_tree sl se (f := r) (j := j) h.2.2.2 (by simp only [Fo.len] at hj; omega)
    exact ⟨p, y, kk, r', by simpa [Fo.at_] using h1, by simpa [Fo.pos] using h2, by simpa [Fo.heads] using h3, by simpa [exprs] using h4, h5, by omega⟩

section
variable {t : List Nd} {B kb mr : Nat} {At : Option Addr} {ct : Nat} {vs : Value} {s : Lk} {w : World}

theorem wanted_ok {i : Nat} {x : Nd} {ks : Fo} (he : ExprOk t i x ks) (h : LK B kb mr At ct t vs s w) (hs : SeenIn s) (hl : s.slots.length ≤ 1000000) (kind : Int) :
    Ret Tryz.prog 48 [kp kb, .int .i64 i, .int .i8 kind] w [kb] fun v w' => ∃ g, v = .int .i64 g ∧ 0 ≤ g ∧ g ≤ t.length - i ∧
      LK B kb mr At ct t vs (mustL (wantL (stepE s.slots s.seen x ks.heads (exprs s.slots s.seen ks)) kind).isSome s) w' ∧
      (s.bad = false → ∀ q, wantL (stepE s.slots s.seen x ks.heads (exprs s.slots s.seen ks)) kind = some q → q = g) := by
  generalize hr : stepE s.slots s.seen x ks.heads (exprs s.slots s.seen ks) = r
  refine fn_go (cx_ok 21 []) wideOrders Tryz.func48 rfl rfl Tryz.call48 (by simp [cx]) ?_; conv => whnf
  refine EvCall.ret (he h hs hl) (by simp [rsOf]) fun v w1 hF1 hq => ?_
  obtain ⟨k, g, rfl, g1, g2, h1, g3⟩ := hq
  rw [hr] at h1 g3
  conv => whnf
  refine EvCall.ret (must_ok h1 (k == kind)) (by simp [rsOf]) fun v w2 hF2 hq => ?_
  obtain ⟨rfl, h2⟩ := hq
  conv => whnf
  rw [mustL_mustL] at h2
  refine ⟨hF1.trans hF2, g, rfl, g1, g2, ?_, ?_⟩
  · have e : mustL (wantL r kind).isSome s = mustL (r.isSome && k == kind) s := mustL_congr fun hb => by
      cases r with
      | none => rfl
      | some q =>
        have := g3 hb q rfl
        subst this
        by_cases hk : k = kind <;> simp [wantL, hk]
    rw [e]; exact h2
  · intro hb q hq
    cases r with
    | none => cases hq
    | some q' =>
      have := g3 hb q' rfl
      subst this
      simp [wantL] at hq
      exact hq.2.symm
end
end Go.Proofs.Tab
