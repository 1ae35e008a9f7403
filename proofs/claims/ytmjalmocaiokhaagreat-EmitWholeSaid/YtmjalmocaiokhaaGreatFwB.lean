/- The walking layer, part B: operations that only compute or read, and why the walk of them is right. No condition. -/
import Derived.Test.YtmjalmocaiokhaaGreatFwA
set_option linter.unusedVariables false
set_option linter.unusedSimpArgs false
namespace Go.Fw
open Go

structure Han where
  ld : Addr → (Value → Prop) → Prop
  ldN : Addr → Nat → (List Value → Prop) → Prop
  rd : Sem Value → (Value → Prop) → Prop

def seqH (P : Program) (w : World) : Han := ⟨EvLd w, EvLdN w, EvRd P w⟩
def takeH (P : Program) (S : World → Prop) : Han := ⟨EvTLd S, EvTLdN S, EvTRd P S⟩

structure Han.Ok (H : Han) (P : Program) (W : World → Prop) : Prop where
  ld : ∀ {a K}, H.ld a K → ∃ v, (∀ w, W w → w.cell? a = some v) ∧ K v
  ldN : ∀ {a n K}, H.ldN a n K → ∃ cs : List Value, cs.length = n ∧ (∀ w, W w → ∀ j v, cs[j]? = some v → w.cell? (a.add j) = some v) ∧ K cs
  rd : ∀ {s K}, H.rd s K → ∃ v, (∀ w, W w → s.run P w = .ok v w) ∧ K v

theorem seqH_ok (P : Program) (w : World) : (seqH P w).Ok P (· = w) :=
  ⟨fun h => by obtain ⟨v, h1, h2⟩ := EvLd.h h; exact ⟨v, by rintro _ rfl; exact h1, h2⟩,
   fun h => by obtain ⟨v, h1, h2, h3⟩ := EvLdN.h h; exact ⟨v, h1, by rintro _ rfl; exact h2, h3⟩,
   fun h => by obtain ⟨v, h1, h2⟩ := EvRd.h h; exact ⟨v, by rintro _ rfl; exact h1, h2⟩⟩
theorem takeH_ok (P : Program) (S : World → Prop) : (takeH P S).Ok P S :=
  ⟨fun h => EvTLd.h h, fun h => EvTLdN.h h, fun h => EvTRd.h h⟩

/-! ### Operands -/
section
variable (ρ : List (Nat × SV)) (bx : List Box)

def opd (x : Operand) (K : SV → Prop) : Prop :=
  Operand.casesOn x (fun t => lk ρ t K) (fun v => match v with | .bool b => K (.kb b) | v => K (.v v)) (fun g => K (.v (.pointer (some ⟨g, 0, none⟩)))) (fun f => K (.v (.func (.func f) #[] #[])))

def val (x : Operand) (K : Value → Prop) : Prop := opd ρ x fun s => SV.casesOn s (fun v => K v) (fun _ _ _ => False) (fun b => K (.bool b))

def vals (xs : List Operand) (K : List Value → Prop) : Prop :=
  (List.rec (motive := fun _ => (List Value → Prop) → Prop) (fun k => k []) (fun x _ ih k => val ρ x fun v => ih fun vs => k (v :: vs)) xs : (List Value → Prop) → Prop) K

def nthL {α : Type} (l : List α) (n : Nat) (K : α → Prop) : Prop :=
  (List.rec (motive := fun _ => Nat → Prop) (fun _ => False) (fun x _ ih n => bif Nat.beq n 0 then K x else ih (Nat.sub n 1)) l : Nat → Prop) n

def SVok (nb : Nat) (s : SV) : Prop := ∀ i r o, s = .bp i r o → i < nb ∧ ∀ b ∈ bx, b.i = i → b.r = r

/-- The known temporaries stand in the frame. -/
def RelA (nb : Nat) (a : Act) : Prop := ∀ t s, look ρ t = some s → a.tmps.getD t undef = s.den ∧ SVok bx nb s
end

theorem nthL_iff {α : Type} {K : α → Prop} : ∀ {l : List α} {n : Nat}, nthL l n K → ∃ x, l[n]? = some x ∧ K x := by
  intro l
  induction l with
  | nil => intro n h; exact h.elim
  | cons x l ih =>
    intro n h
    cases n with
    | zero => exact ⟨x, rfl, h⟩
    | succ n =>
      obtain ⟨y, h1, h2⟩ := ih (n := n) h
      exact ⟨y, by simpa using h1, h2⟩

def RelB (bx : List Box) (w : World) : Prop := ∀ b ∈ bx, w.heap[b.r]? = some (.cells b.cs.toArray b.T (0, 0))

section
variable {ρ : List (Nat × SV)} {bx : List Box} {nb : Nat} {a : Act}

theorem SVok.val (v : Value) : SVok bx nb (.v v) := by intro i r o h; cases h
theorem SVok.kb (b : Bool) : SVok bx nb (.kb b) := by intro i r o h; cases h

theorem opd_ok (hA : RelA ρ bx nb a) {x : Operand} {K : SV → Prop} (h : opd ρ x K) : ∃ s, a.eval x = s.den ∧ SVok bx nb s ∧ K s := by
  cases x with
  | tmp t =>
    obtain ⟨s, h1, h2⟩ := lk_iff h
    exact ⟨s, (hA t s h1).1, (hA t s h1).2, h2⟩
  | const v =>
    unfold opd at h
    dsimp only at h
    split at h
    · exact ⟨_, rfl, SVok.kb _, h⟩
    · exact ⟨_, rfl, SVok.val _, h⟩
  | global g => exact ⟨_, rfl, SVok.val _, h⟩
  | func f => exact ⟨_, rfl, SVok.val _, h⟩

theorem val_ok (hA : RelA ρ bx nb a) {x : Operand} {K : Value → Prop} (h : val ρ x K) : ∃ v, a.eval x = v ∧ K v := by
  obtain ⟨s, h1, h2, h3⟩ := opd_ok hA h
  cases s with
  | v x => exact ⟨x, h1, h3⟩
  | bp i r o => exact h3.elim
  | kb b => exact ⟨.bool b, h1, h3⟩

theorem vals_ok (hA : RelA ρ bx nb a) {xs : List Operand} : ∀ {K : List Value → Prop}, vals ρ xs K → ∃ vs, xs.map a.eval = vs ∧ K vs := by
  induction xs with
  | nil => intro K h; exact ⟨[], rfl, h⟩
  | cons x xs ih =>
    intro K h
    have h' : val ρ x (fun v => vals ρ xs (fun vs => K (v :: vs))) := h
    obtain ⟨v, h1, h2⟩ := val_ok hA h'
    obtain ⟨vs, h3, h4⟩ := ih h2
    exact ⟨v :: vs, by rw [List.map_cons, h1, h3], h4⟩
end

/-! ### The operations -/

noncomputable def fld (C : Ctx) (s f : Nat) (K : Nat → Nat → Bool → Prop) : Prop :=
  match (C.ty s).cls with
  | .struct => nthL (C.ty s).fields f fun p => Prod.casesOn p fun off q => Prod.casesOn q fun sz ag => bif Nat.beq sz 0 then False else K off sz ag
  | _ => False

noncomputable def ikEq (a b : IntKind) : Bool := Nat.beq a.ctorIdx b.ctorIdx

noncomputable def binX (C : Ctx) (P : Program) (H : Han) (op : BinOp) (t : Nat) (x y : Operand) (a b : Value) (K : Value → Prop) : Prop :=
  match a, b with
  | .int k m, .int k' n =>
    (match op with
    | .shl => EvSh n fun n => EvAr k (m * 2 ^ (min n k.bits)) fun r => K (.int k r)
    | .shr => EvSh n fun n => K (.int k (m.fdiv (2 ^ (min n k.bits))))
    | op => bif ikEq k k' then (match op with
      | .add => EvAr k (m + n) fun r => K (.int k r)
      | .sub => EvAr k (m - n) fun r => K (.int k r)
      | .mul => EvAr k (m * n) fun r => K (.int k r)
      | .quo => EvNz n (EvAr k (m.tdiv n) fun r => K (.int k r))
      | .rem => EvNz n (K (.int k (m.tmod n)))
      | .eql => K (.bool (m == n))
      | .neq => K (.bool (m != n))
      | .lss => K (.bool (decide (m < n)))
      | .leq => K (.bool (decide (m ≤ n)))
      | .gtr => K (.bool (decide (m > n)))
      | .geq => K (.bool (decide (m ≥ n)))
      | op => H.rd (binOp op t (.int k m) (.int k' n)) K) else False)
  | .string m, .string n =>
    (match op with
    | .eql => K (.bool (m.toList == n.toList))
    | .neq => K (.bool (!(m.toList == n.toList)))
    | op => H.rd (binOp op t (.string m) (.string n)) K)
  | a, b => H.rd (do eqGuard op t x y a b; binOp op t a b) K

noncomputable def agL (ag : Bool) (cs : List Value) (o sz : Nat) (K : SV → Prop) : Prop :=
  bif ag then takeL cs o sz fun ys => K (.v (.agg ys.toArray)) else nthL cs o fun y => K (.v y)

noncomputable def slB (ρ : List (Nat × SV)) (lo hi mx : Option Operand) (len cap : Nat) (k : Nat → Nat → Nat → Prop) : Prop :=
  match lo, hi, mx with
  | none, none, none => EvSl 0 len cap cap k
  | none, some h, none => val ρ h fun hv => (match hv with | .int _ h => EvSl 0 h cap cap k | _ => False)
  | some l, none, none => val ρ l fun lv => (match lv with | .int _ l => EvSl l len cap cap k | _ => False)
  | some l, some h, none => val ρ l fun lv => val ρ h fun hv => (match lv, hv with | .int _ l, .int _ h => EvSl l h cap cap k | _, _ => False)
  | none, some h, some m => val ρ h fun hv => val ρ m fun mv => (match hv, mv with | .int _ h, .int _ m => EvSl 0 h m cap k | _, _ => False)
  | some l, some h, some m => val ρ l fun lv => val ρ h fun hv => val ρ m fun mv => (match lv, hv, mv with | .int _ l, .int _ h, .int _ m => EvSl l h m cap k | _, _, _ => False)
  | _, none, some _ => False

/-- A type that the table knows. -/
noncomputable def known (C : Ctx) (t : Nat) (K : Prop) : Prop := match (C.ty t).cls with | .no => False | _ => K

noncomputable def sliceX (C : Ctx) (ρ : List (Nat × SV)) (t : Nat) (v : Value) (lo hi mx : Option Operand) (K : SV → Prop) : Prop :=
  match (C.ty t).cls, v with
  | .slice e, .slice A len cap => known C e (slB ρ lo hi mx len cap fun l h m => K (.v (.slice (if m = l then A else A.map (·.add (l * (C.ty e).size))) (h - l) (m - l))))
  | .str, .string s => (match mx with | none => slB ρ lo hi none s.size s.size fun l h _ => K (.v (.string (s.extract l h))) | some _ => False)
  | _, _ => False

noncomputable def builtX (C : Ctx) (P : Program) (H : Han) (b : Builtin) (ts : List Nat) (ty : Nat) (vs : List Value) (K : SV → Prop) : Prop :=
  match b, vs with
  | .len, [.slice A n c] => (match ts with | [t] => (match (C.ty t).cls with | .slice _ => K (.v (.int .i64 n)) | _ => False) | _ => False)
  | .len, [.string s] => (match ts with | [t] => (match (C.ty t).cls with | .str => K (.v (.int .i64 s.size)) | _ => False) | _ => False)
  | .cap, [.slice A n c] => (match ts with | [t] => (match (C.ty t).cls with | .slice _ => K (.v (.int .i64 c)) | _ => False) | _ => False)
  | .len, vs => H.rd (Builtin.len_ ts.toArray ty vs.toArray) fun v => K (.v v)
  | .min, [.int k a, .int _ b] => K (.v (.int k (if b < a then b else a)))
  | .max, [.int k a, .int _ b] => K (.v (.int k (if b > a then b else a)))
  | _, _ => False

/-- The cells of parts laid into a row of zero cells. -/
noncomputable def partsX (ρ : List (Nat × SV)) (place : Nat → (Nat → Nat → Prop) → Prop) (parts : List (Nat × Operand)) (z : List Value) (K : List Value → Prop) : Prop :=
  (List.rec (motive := fun _ => List Value → Prop) (fun l => K l)
    (fun p _ ih l => Prod.casesOn p fun i x => place i fun off sz => val ρ x fun v => force (v.cells.toList) fun cs => bif Nat.beq cs.length sz then (bif Nat.beq sz 0 then False else setsL l off cs ih) else False) parts : List Value → Prop) z

noncomputable def pureX (C : Ctx) (P : Program) (H : Han) (op : Op) (ty : Nat) (ρ : List (Nat × SV)) (bx : List Box) (K : SV → Prop) : Prop :=
  match op with
  | .move x => opd ρ x K
  | .assign x => opd ρ x K
  | .pick c a b => opd ρ c fun s => (match s with | .kb t => bif t then opd ρ a K else opd ρ b K | .v (.bool t) => EvSplit t fun t => bif t then opd ρ a K else opd ρ b K | _ => False)
  | .nilCheck x => opd ρ x fun s => SV.casesOn s
      (fun v => match v with | .pointer (some a) => K (.v (.pointer (some a))) | .func (.func f) a b => K (.v (.func (.func f) a b)) | _ => False)
      (fun i r o => K (.bp i r o)) (fun _ => False)
  | .binOp op t x y _ => val ρ x fun a => val ρ y fun b => binX C P H op t x y a b fun v => K (.v v)
  | .unOp op _ x => val ρ x fun a => (match op, a with
      | .not, .bool b => K (.v (.bool (!b)))
      | .neg, .int k n => EvAr k (0 - n) fun m => K (.v (.int k m))
      | op, a => H.rd (Op.unary op a) fun v => K (.v v))
  | .convert s d x => val ρ x fun a => (match (C.ty s).cls, (C.ty d).cls, a with
      | .int _, .int k, .int _ n => EvAr k n fun m => K (.v (.int k m))
      | _, _, a => H.rd (convert s d a) fun v => K (.v v))
  | .fieldAddr s x f => fld C s f fun off _ _ => opd ρ x fun sv => SV.casesOn sv
      (fun v => match v with | .pointer (some a) => K (.v (.pointer (some (a.add off)))) | _ => False)
      (fun i r o => K (.bp i r (Nat.add o off))) (fun _ => False)
  | .field s x f => fld C s f fun off sz ag => val ρ x fun v => (match v with | .agg cs => agL ag cs.toList off sz K | _ => False)
  | .indexAddr t x i => val ρ i fun iv => (match iv with
      | .int _ n => val ρ x fun v => (match (C.ty t).cls, v with
        | .slice e, .slice A len cap => known C e <| EvIdx A len n (C.ty e).size fun a => K (.v (.pointer (some a)))
        | .array len e, .pointer A => known C e <| EvIdx A len n (C.ty e).size fun a => K (.v (.pointer (some a)))
        | _, _ => False)
      | _ => False)
  | .index t x i => val ρ i fun iv => (match iv with
      | .int _ n => val ρ x fun v => (match (C.ty t).cls, v with
        | .array len e, .agg cs => known C e <| bif (C.ty e).agg then False else bif Nat.beq (C.ty e).size 1 then EvArr cs.toList n len fun v => K (.v v) else False
        | .str, .string s => EvStr s n fun b => K (.v (.int .u8 b))
        | _, _ => False)
      | _ => False)
  | .load t x => opd ρ x fun sv => SV.casesOn sv
      (fun v => match v with
        | .pointer (some a) => known C t (bif (C.ty t).agg then H.ldN a (C.ty t).size fun cs => K (.v (.agg cs.toArray)) else H.ld a fun v => K (.v v))
        | _ => False)
      (fun i r o => lkb bx i fun _ _ cs => known C t <| agL (C.ty t).agg cs o (C.ty t).size K) (fun _ => False)
  | .extract t i => val ρ t fun v => (match v with | .tuple vs => nthL vs.toList i fun v => K (.v v) | _ => False)
  | .makeFunc fn fi cap => vals ρ fi.toList fun a => vals ρ cap.toList fun b => K (.v (.func fn a.toArray b.toArray))
  | .build t parts => (match (C.ty t).cls with
      | .struct => partsX ρ (fun i k => nthL (C.ty t).fields i fun p => Prod.casesOn p fun off q => Prod.casesOn q fun sz _ => bif Nat.beq sz 0 then False else k off sz) parts.toList (C.ty t).zero fun l => K (.v (.agg l.toArray))
      | .array _ e => known C e <| partsX ρ (fun i k => k (Nat.mul i (C.ty e).size) (C.ty e).size) parts.toList (C.ty t).zero fun l => K (.v (.agg l.toArray))
      | _ => False)
  | .slice t x lo hi mx => val ρ x fun v => sliceX C ρ t v lo hi mx K
  | .makeInterface t x => val ρ x fun v => (match (C.ty t).cls with | .iface => False | .no => False | _ => K (.v (.iface t v)))
  | .typeAssert x s d ok => val ρ x fun v => H.rd (Instr.typeAssert v s d ok) fun v => K (.v v)
  | .lookup t x i ok => val ρ x fun a => val ρ i fun b => H.rd (Instr.lookup t a b ok) fun v => K (.v v)
  | .entry x => val ρ x fun v => H.rd (Instr.entry v) fun v => K (.v v)
  | .call c => (match c.callee with
      | .builtin b => vals ρ c.args.toList fun vs => builtX C P H b c.argTypes.toList ty vs K
      | _ => False)
  | _ => False

end Go.Fw
