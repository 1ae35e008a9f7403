/- Package check: statements, in plain Lean, and what a walk of one is to show. No condition. -/
import Derived.Test.YtmjalmocaiokhaaGreatCheckV
set_option linter.unusedVariables false
set_option linter.unusedSimpArgs false
set_option maxRecDepth 100000
namespace Go.Proofs.Tab
open Go Go.Fw

abbrev St2 := List Int × (Int → Option Bool)
abbrev Mn := St2 → Option St2

def blocksL : List Nd → List (Mn × Mn) → Nat → Mn
  | y :: ys, m :: ms, i, q => ((if i = 1 ∧ y.op = 13 then m.1 else m.2) q).bind (blocksL ys ms (i + 1))
  | _, _, _, q => some q
def delL (k : Int) (q : St2) : St2 := (q.1, setF q.2 k none)
def stmtsL : List Nd → List (Mn × Mn) → Mn
  | _ :: ys, m :: ms, q => (m.1 q).bind (stmtsL ys ms)
  | _, _, q => some q
def ownL (hd : List Nd) : List Int := (hd.filter (·.op == 11)).map (·.n)
def delsL (l : List Int) (q : St2) : St2 := l.foldl (fun q k => delL k q) q
def blockB (x : Nd) (hd : List Nd) (sub : List (Mn × Mn)) : Mn := fun q =>
  if x.op == 10 && likeB x 0 0 0 then (stmtsL hd sub q).map (delsL (ownL hd)) else none
def stepS (x : Nd) (hd : List Nd) (ex : St2 → List Kh) (sub : List (Mn × Mn)) : Mn := fun q =>
  if x.op = 11 then (if [1].contains (hd.length : Int) && likeB x 0 x.n 0 then (kh (ex q) 0).bind fun e => if e.2 ≤ 256 then declL x.n true [e.1] q.1 q.2 else none else none)
  else if x.op = 12 then (if [1].contains (hd.length : Int) && (decide (x.n ≥ 0) && decide (x.n < 1048576) && q.2 x.n == some true) && likeB x 0 x.n 0 && valueL (kh (ex q) 0) (q.1.getD x.n.toNat 0) then some q else none)
  else if x.op = 13 then (if [2, 3].contains (hd.length : Int) && likeB x 0 0 0 && valueL (kh (ex q) 0) 2 then blocksL (hd.drop 1) (sub.drop 1) 0 q else none)
  else if x.op = 14 then (if [1].contains (hd.length : Int) && (decide (x.n ≥ 0) && decide (x.n ≤ 255)) && likeB x 0 x.n x.m then (declL x.m false [1] q.1 q.2).bind fun q => (blocksL hd sub 0 q).map (delL x.m) else none)
  else if x.op = 15 then (if [2].contains (hd.length : Int) && (decide (x.n ≥ 0) && IntKind.i64.wrap (x.m - 1) == x.n) && likeB x 0 x.n x.m && valueL (kh (ex q) 0) 6 then (declL x.n false [3, 6, 1] q.1 q.2).bind fun q => (blocksL (hd.drop 1) (sub.drop 1) 0 q).map (delL x.n) else none)
  else if x.op = 16 then (if [2, 3].contains (hd.length : Int) && likeB x 0 x.n 0 && valueL (kh (ex q) 0) 6 then
      (declL x.n false [3] q.1 q.2).bind fun q => ((blocksL ((hd.drop 1).take 1) ((sub.drop 1).take 1) 0 q).map (delL x.n)).bind fun q => if hd.length = 3 then ((sub[2]?).elim none fun m => m.2 q) else some q
    else none)
  else if x.op = 17 ∨ x.op = 18 then (if [0].contains (hd.length : Int) && likeB x 0 0 0 then some q else none)
  else if x.op = 19 then (signL effectsL x.n).bind fun s => (callL s x hd (ex q)).bind fun h => if h ≤ 256 then some q else none
  else none

/-- What every tree of a forest says as a statement, as a block. -/
def sem : Fo → List (Mn × Mn)
  | .nil => []
  | .cons x ks r => (stepS x ks.heads (fun q => exprs q.1 q.2 ks) (sem ks), blockB x ks.heads (sem ks)) :: sem r
theorem sem_length : ∀ f : Fo, (sem f).length = f.len
  | .nil => rfl
  | .cons x ks r => by simp [sem, Fo.len, sem_length r]; omega

/-- The contract of a statement, of a block, at a place p; e: the place behind it. -/
def StOk (fn : Nat) (t : List Nd) (p e : Nat) (m : Mn) : Prop :=
  ∀ {B kb mr : Nat} {At : Option Addr} {ct : Nat} {vs : Value} {s : Lk} {w : World}, LK B kb mr At ct t vs s w → SeenIn s → s.slots.length ≤ 2 + 3 * p → s.bad = false →
    Ret Tryz.prog fn [kp kb, .int .i64 p] w (kb :: mr :: vs.ownBlock.toList) fun v w' => ∃ vs' s', LK B kb mr At ct t vs' s' w' ∧ KeptV vs vs' w ∧ Res s (m (s.slots, s.seen)) s' ∧ SeenIn s' ∧ s'.slots.length ≤ 2 + 3 * e

def Stm (t : List Nd) (p : Nat) (x : Nd) (ks : Fo) : Prop := StOk 51 t p (p + 1 + ks.size) (stepS x ks.heads (fun q => exprs q.1 q.2 ks) (sem ks))
def Blk (t : List Nd) (p : Nat) (x : Nd) (ks : Fo) : Prop := StOk 36 t p (p + 1 + ks.size) (blockB x ks.heads (sem ks))

/-- A tree of a forest, as a statement too. -/
theorem fo_sem : ∀ {f : Fo} {i j p : Nat} {y : Nd} {kk : Fo}, (f.at_ i)[j]? = some (p, y, kk) → (sem f)[j]? = some (stepS y kk.heads (fun q => exprs q.1 q.2 kk) (sem kk), blockB y kk.heads (sem kk)) ∧ f.heads[j]? = some y ∧ (f.pos i)[j]? = some p
  | .nil, _, _, _, _, _, h => by simp [Fo.at_] at h
  | .cons x ks r, i, 0, p, y, kk, h => by
    simp [Fo.at_] at h
    obtain ⟨rfl, rfl, rfl⟩ := h
    exact ⟨rfl, rfl, rfl⟩
  | .cons x ks r, i, j + 1, p, y, kk, h => by
    obtain ⟨h1, h2, h3⟩ := fo_sem (f := r) (i := i + 1 + ks.size) (j := j) (by simpa [Fo.at_] using h)
    exact ⟨by simpa [sem] using h1, by simpa [Fo.heads] using h2, by simpa [Fo.pos] using h3⟩
/-- The next tree stands where this one ends. -/
theorem fo_next : ∀ {f : Fo} {i j p : Nat} {y : Nd} {kk : Fo}, (f.at_ i)[j]? = some (p, y, kk) → (j + 1 < f.len → (f.pos i)[j + 1]? = some (p + 1 + kk.size)) ∧ p + 1 + kk.size ≤ i + f.size ∧ i ≤ p
  | .nil, _, _, _, _, _, h => by simp [Fo.at_] at h
  | .cons x ks r, i, 0, p, y, kk, h => by
    simp [Fo.at_] at h
    obtain ⟨rfl, rfl, rfl⟩ := h
    refine ⟨fun h => ?_, by simp only [Fo.size]; omega, by omega⟩
    cases r with
    | nil => simp [Fo.len] at h
    | cons a b c => rfl
  | .cons x ks r, i, j + 1, p, y, kk, h => by
    obtain ⟨h1, h2, h3⟩ := fo_next (f := r) (i := i + 1 + ks.size) (j := j) (by simpa [Fo.at_] using h)
    refine ⟨fun h => ?_, by simp only [Fo.size]; omega, by omega⟩
    have := h1 (by simp only [Fo.len] at h; omega)
    simpa [Fo.pos] using this
end Go.Proofs.Tab
