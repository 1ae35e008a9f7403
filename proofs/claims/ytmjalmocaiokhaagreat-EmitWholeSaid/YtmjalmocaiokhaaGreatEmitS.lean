/- Package emit: what is made of a tree, in plain Lean. No condition. -/
import Derived.Test.YtmjalmocaiokhaaGreatCheckT
set_option linter.unusedVariables false
set_option linter.unusedSimpArgs false
namespace Go.Proofs.Tab
open Go Go.Fw

/-- What is made: the bytes, is a number lacking, the jumps that are to be laid: where, to what. -/
structure Mk where
  b : List Int
  bad : Bool
  later : List (Nat × Nat)

/-- The pools: where a number stands, where a text. -/
structure Pl where
  ints : Int → Option Int
  texts : ByteArray → Option Int

abbrev Em := Mk → Mk
def u8 (n : Int) : Int := IntKind.u8.wrap n

def opM (c : Int) (xs : List Int) : Em := fun s => { s with b := s.b ++ c :: xs }
def wideM (c n : Int) : Em := opM c [u8 (n.fdiv 256), u8 n]
def needM (o : Option Int) : Em := fun s => { s with bad := s.bad || !o.isSome }
def pushM (P : Pl) (n : Int) : Em := fun s => wideM 1 ((P.ints n).getD 0) (needM (P.ints n) s)
/-- A jump ahead; rest: what comes behind it, told where its target is to be laid. -/
def holeM (s : Mk) : Nat := s.b.length - 2
def aheadM (c : Int) (xs : List Int) : Em := opM c (xs ++ [0, 0])
def hereM (a : Nat) : Em := fun s => { s with later := s.later ++ [(a, s.b.length)] }

def seqM : List Em → Em
  | [] => id
  | f :: l => fun s => seqM l (f s)
def nthM (l : List Em) (i : Nat) : Em := (l[i]?).getD id

def orM (sub : List Em) : Em := fun s =>
  let s1 := aheadM 31 [] (nthM sub 0 s)
  let s2 := aheadM 30 [] (opM 2 [] s1)
  hereM (holeM s2) (nthM sub 1 (hereM (holeM s1) s2))
def andM (sub : List Em) : Em := fun s =>
  let s1 := aheadM 31 [] (nthM sub 0 s)
  let s2 := aheadM 30 [] (nthM sub 1 s1)
  hereM (holeM s2) (opM 3 [] (hereM (holeM s1) s2))
def equalM (x : Nd) (hd : List Nd) (sub : List Em) : Em := fun s =>
  let s1 := opM 24 [u8 ((hd[0]?).getD default).kind] (seqM sub s)
  if x.op = 39 then opM 23 [] s1 else s1
def callC (n : Int) : Int := ([40, 0, 42, 43, 44, 0, 16, 17, 18] : List Int).getD n.toNat 0
def callM (P : Pl) (x : Nd) (hd : List Nd) (sub : List Em) : Em := fun s =>
  if x.n = 1 then opM 41 [u8 ((hd[1]?).getD default).n] (nthM sub 0 s)
  else if x.n = 5 then wideM 45 ((P.texts ((hd[1]?).getD default).text).getD 0) (needM (P.texts ((hd[1]?).getD default).text) (nthM sub 0 s))
  else opM (callC x.n) [] (seqM sub s)
def forkM (x : Nd) (sub : List Em) : Em := fun s =>
  let s0 := nthM sub 0 s
  let s1 := if x.op = 13 then aheadM 31 [] s0 else aheadM 33 [] s0
  let s2 := if x.op = 13 then s1 else opM 5 [u8 x.n] s1
  let s3 := nthM sub 1 s2
  if sub.length < 3 then hereM (holeM s1) s3
  else
    let s4 := aheadM 30 [] s3
    hereM (holeM s4) (nthM sub 2 (hereM (holeM s1) s4))
def repeatM (P : Pl) (x : Nd) (sub : List Em) : Em := fun s =>
  let s1 := opM 5 [u8 x.m] (pushM P 0 s)
  let s2 := aheadM 31 [] (opM 19 [] (pushM P x.n (opM 4 [u8 x.m] s1)))
  let s3 := opM 5 [u8 x.m] (opM 10 [] (pushM P 1 (opM 4 [u8 x.m] (seqM sub s2))))
  hereM (holeM s2) (wideM 30 s1.b.length s3)
def eachM (P : Pl) (x : Nd) (sub : List Em) : Em := fun s =>
  let s1 := opM 5 [u8 (u8 x.m + 1)] (pushM P 0 (opM 5 [u8 x.m] (nthM sub 0 (needM (P.ints 1) s))))
  let s2 := aheadM 32 [u8 x.m, u8 (u8 x.m + 1)] s1
  hereM (holeM s2) (wideM 30 s1.b.length (nthM sub 1 (opM 5 [u8 x.n] s2)))
/-- The plain operators' codes. -/
def plainC (op : Int) : Option Int :=
  if op = 40 then some 19 else if op = 41 then some 20 else if op = 42 then some 21 else if op = 43 then some 22
  else if op = 44 then some 10 else if op = 45 then some 11 else if op = 46 then some 12 else if op = 47 then some 13 else if op = 48 then some 14
  else if op = 34 then some 23 else if op = 35 then some 15 else if op = 31 then some 2 else if op = 32 then some 3 else if op = 17 then some 34 else if op = 18 then some 35 else none

/-- What is made of a node, given its kids, and what is made of them. -/
def emStep (P : Pl) (x : Nd) (hd : List Nd) (sub : List Em) : Em := fun s =>
  if x.op = 10 then seqM sub s
  else if x.op = 30 then pushM P x.n s
  else if x.op = 33 then opM 4 [u8 x.n] s
  else if x.op = 36 then orM sub s
  else if x.op = 37 then andM sub s
  else if x.op = 38 ∨ x.op = 39 then equalM x hd sub s
  else if x.op = 50 then callM P x hd sub s
  else if x.op = 13 ∨ x.op = 16 then forkM x sub s
  else if x.op = 14 then repeatM P x sub s
  else if x.op = 15 then eachM P x sub s
  else if x.op = 49 then opM 46 [u8 x.n] (seqM sub s)
  else if x.op = 19 then opM 60 [u8 x.n] (seqM sub s)
  else if x.op = 11 ∨ x.op = 12 then opM 5 [u8 x.n] (seqM sub s)
  else match plainC x.op with
    | some c => opM c [] (seqM sub s)
    | none => s
def ems (P : Pl) : Fo → List Em
  | .nil => []
  | .cons x ks r => emStep P x ks.heads (ems P ks) :: ems P r
theorem ems_length (P : Pl) : ∀ f : Fo, (ems P f).length = f.len
  | .nil => rfl
  | .cons x ks r => by simp [ems, Fo.len, ems_length P r]; omega

/-- Can it be made of it? sub: can it of the kids? -/
def wfStep (x : Nd) (hd : List Nd) (sub : List Prop) : Prop :=
  let all := ∀ p ∈ sub, p
  let at_ := fun i => ∃ p, sub[i]? = some p ∧ p
  if x.op = 10 ∨ x.op = 49 ∨ x.op = 19 ∨ x.op = 11 ∨ x.op = 12 ∨ x.op = 14 then all
  else if x.op = 30 ∨ x.op = 33 then True
  else if x.op = 36 ∨ x.op = 37 then at_ 0 ∧ at_ 1
  else if x.op = 38 ∨ x.op = 39 then all ∧ 0 < sub.length
  else if x.op = 50 then (if x.n = 1 ∨ x.n = 5 then at_ 0 ∧ 1 < sub.length else all ∧ 0 ≤ x.n ∧ x.n < 9)
  else if x.op = 13 ∨ x.op = 16 then at_ 0 ∧ at_ 1 ∧ (3 ≤ sub.length → at_ 2)
  else if x.op = 15 then at_ 0 ∧ at_ 1
  else (plainC x.op).isSome ∧ all
def wfs : Fo → List Prop
  | .nil => []
  | .cons x ks r => wfStep x ks.heads (wfs ks) :: wfs r
theorem wfs_length : ∀ f : Fo, (wfs f).length = f.len
  | .nil => rfl
  | .cons x ks r => by simp [wfs, Fo.len, wfs_length r]; omega

/-! ### Sizes -/
def Gr (f : Em) (n : Nat) : Prop := ∀ s, s.b.length ≤ (f s).b.length ∧ (f s).b.length ≤ s.b.length + 25 * n ∧ (f s).later.length ≤ s.later.length + 2 * n
def szs : Fo → List Nat
  | .nil => []
  | .cons _ ks r => (1 + ks.size) :: szs r
theorem szs_sum : ∀ f : Fo, (szs f).sum = f.size
  | .nil => rfl
  | .cons x ks r => by simp [szs, Fo.size, szs_sum r]
theorem len_op (c : Int) (xs : List Int) (s : Mk) : (opM c xs s).b.length = s.b.length + 1 + xs.length ∧ (opM c xs s).later.length = s.later.length := ⟨by simp [opM]; omega, rfl⟩
theorem len_wide (c n : Int) (s : Mk) : (wideM c n s).b.length = s.b.length + 3 ∧ (wideM c n s).later.length = s.later.length := len_op _ _ _
theorem len_need (o : Option Int) (s : Mk) : (needM o s).b.length = s.b.length ∧ (needM o s).later.length = s.later.length := ⟨rfl, rfl⟩
theorem len_push (P : Pl) (n : Int) (s : Mk) : (pushM P n s).b.length = s.b.length + 3 ∧ (pushM P n s).later.length = s.later.length := len_wide _ _ _
theorem len_ahead (c : Int) (xs : List Int) (s : Mk) : (aheadM c xs s).b.length = s.b.length + 3 + xs.length ∧ (aheadM c xs s).later.length = s.later.length := ⟨by simp [aheadM, opM]; omega, rfl⟩
theorem len_here (a : Nat) (s : Mk) : (hereM a s).b.length = s.b.length ∧ (hereM a s).later.length = s.later.length + 1 := ⟨rfl, by simp [hereM]⟩
theorem seq_gr {sub : List Em} {ns : List Nat} (h : All2 Gr sub ns) : Gr (seqM sub) ns.sum := by
  induction h with
  | nil => intro s; exact ⟨Nat.le_refl _, by simp [seqM], by simp [seqM]⟩
  | @cons f n l m h0 _ ih =>
    intro s
    have a := h0 s
    have b := ih (f s)
    simp only [List.sum_cons]
    refine ⟨?_, ?_, ?_⟩ <;> simp only [seqM] <;> omega
theorem nth_gr {sub : List Em} {ns : List Nat} (h : All2 Gr sub ns) (j : Nat) : Gr (nthM sub j) ((ns[j]?).getD 0) := by
  unfold nthM
  rcases Nat.lt_or_ge j sub.length with hj | hj
  · have hj' : j < ns.length := by rw [← h.len]; exact hj
    rw [List.getElem?_eq_getElem hj, List.getElem?_eq_getElem hj']
    exact h.at_ j _ _ (List.getElem?_eq_getElem hj) (List.getElem?_eq_getElem hj')
  · rw [List.getElem?_eq_none hj, List.getElem?_eq_none (by rw [← h.len]; exact hj)]
    intro s
    exact ⟨Nat.le_refl _, by simp, by simp⟩
theorem three_le (ns : List Nat) : (ns[0]?).getD 0 + (ns[1]?).getD 0 + (ns[2]?).getD 0 ≤ ns.sum := by
  match ns with
  | [] => simp
  | [a] => simp
  | [a, b] => simp
  | a :: b :: c :: l => simp; omega

theorem step_gr (P : Pl) (x : Nd) (hd : List Nd) {sub : List Em} {ns : List Nat} (h : All2 Gr sub ns) : Gr (emStep P x hd sub) (1 + ns.sum) := by
  intro s
  have q := seq_gr h
  have n0 := nth_gr h 0
  have n1 := nth_gr h 1
  have n2 := nth_gr h 2
  have h3 := three_le ns
  generalize (ns[0]?).getD 0 = a0 at *
  generalize (ns[1]?).getD 0 = a1 at *
  generalize (ns[2]?).getD 0 = a2 at *
  have qs := q s
  obtain ⟨s', hs'⟩ : ∃ s', s' = emStep P x hd sub s := ⟨_, rfl⟩
  rw [← hs']
  unfold emStep at hs'
  by_cases c0 : x.op = 10
  · rw [if_pos c0] at hs'; subst hs'
    omega
  rw [if_neg c0] at hs'
  by_cases c1 : x.op = 30
  · rw [if_pos c1] at hs'; subst hs'
    have := len_push P x.n s; omega
  rw [if_neg c1] at hs'
  by_cases c2 : x.op = 33
  · rw [if_pos c2] at hs'; subst hs'
    have := len_op 4 [u8 x.n] s; simp at this; omega
  rw [if_neg c2] at hs'
  by_cases c3 : x.op = 36
  · rw [if_pos c3] at hs'; subst hs'
    unfold orM; dsimp only
    have a := n0 s
    generalize nthM sub 0 s = s0 at *
    have b := len_ahead 31 [] s0
    generalize aheadM 31 [] s0 = s1 at *
    have c := len_op 2 [] s1
    generalize opM 2 [] s1 = s2 at *
    have d := len_ahead 30 [] s2
    generalize aheadM 30 [] s2 = s3 at *
    have e := len_here (holeM s1) s3
    generalize hereM (holeM s1) s3 = s4 at *
    have f := n1 s4
    generalize nthM sub 1 s4 = s5 at *
    have g := len_here (holeM s3) s5
    simp only [List.length_nil] at *
    omega
  rw [if_neg c3] at hs'
  by_cases c4 : x.op = 37
  · rw [if_pos c4] at hs'; subst hs'
    unfold andM; dsimp only
    have a := n0 s
    generalize nthM sub 0 s = s0 at *
    have b := len_ahead 31 [] s0
    generalize aheadM 31 [] s0 = s1 at *
    have f := n1 s1
    generalize nthM sub 1 s1 = s2 at *
    have d := len_ahead 30 [] s2
    generalize aheadM 30 [] s2 = s3 at *
    have e := len_here (holeM s1) s3
    generalize hereM (holeM s1) s3 = s4 at *
    have c := len_op 3 [] s4
    generalize opM 3 [] s4 = s5 at *
    have g := len_here (holeM s3) s5
    simp only [List.length_nil] at *
    omega
  rw [if_neg c4] at hs'
  by_cases c5 : x.op = 38 ∨ x.op = 39
  · rw [if_pos c5] at hs'; subst hs'
    unfold equalM; dsimp only
    have b := len_op 24 [u8 ((hd[0]?).getD default).kind] (seqM sub s)
    generalize opM 24 [u8 ((hd[0]?).getD default).kind] (seqM sub s) = s1 at *
    have c := len_op 23 [] s1
    simp only [List.length_nil, List.length_cons] at *
    split <;> omega
  rw [if_neg c5] at hs'
  by_cases c6 : x.op = 50
  · rw [if_pos c6] at hs'; subst hs'
    unfold callM
    have a := n0 s
    split
    · have b := len_op 41 [u8 ((hd[1]?).getD default).n] (nthM sub 0 s)
      simp only [List.length_nil, List.length_cons] at *
      omega
    · split
      · have b := len_need (P.texts ((hd[1]?).getD default).text) (nthM sub 0 s)
        have c := len_wide 45 ((P.texts ((hd[1]?).getD default).text).getD 0) (needM (P.texts ((hd[1]?).getD default).text) (nthM sub 0 s))
        omega
      · have c := len_op (callC x.n) [] (seqM sub s)
        simp only [List.length_nil] at *
        omega
  rw [if_neg c6] at hs'
  by_cases c7 : x.op = 13 ∨ x.op = 16
  · rw [if_pos c7] at hs'; subst hs'
    unfold forkM; dsimp only
    have a := n0 s
    generalize nthM sub 0 s = s0 at *
    have b : (if x.op = 13 then aheadM 31 [] s0 else aheadM 33 [] s0).b.length = s0.b.length + 3 ∧ (if x.op = 13 then aheadM 31 [] s0 else aheadM 33 [] s0).later.length = s0.later.length := by
      split
      · exact len_ahead _ [] _
      · exact len_ahead _ [] _
    generalize (if x.op = 13 then aheadM 31 [] s0 else aheadM 33 [] s0) = s1 at *
    have c : s1.b.length ≤ (if x.op = 13 then s1 else opM 5 [u8 x.n] s1).b.length ∧ (if x.op = 13 then s1 else opM 5 [u8 x.n] s1).b.length ≤ s1.b.length + 2 ∧ (if x.op = 13 then s1 else opM 5 [u8 x.n] s1).later.length = s1.later.length := by
      have := len_op 5 [u8 x.n] s1
      simp only [List.length_nil, List.length_cons] at this
      split <;> omega
    generalize (if x.op = 13 then s1 else opM 5 [u8 x.n] s1) = s2 at *
    have d := n1 s2
    generalize nthM sub 1 s2 = s3 at *
    split
    · have e := len_here (holeM s1) s3
      omega
    · have e := len_ahead 30 [] s3
      generalize aheadM 30 [] s3 = s4 at *
      have f := len_here (holeM s1) s4
      generalize hereM (holeM s1) s4 = s5 at *
      have g := n2 s5
      generalize nthM sub 2 s5 = s6 at *
      have k := len_here (holeM s4) s6
      simp only [List.length_nil] at *
      omega
  rw [if_neg c7] at hs'
  by_cases c8 : x.op = 14
  · rw [if_pos c8] at hs'; subst hs'
    unfold repeatM; dsimp only
    have a := len_push P 0 s
    generalize pushM P 0 s = s0 at *
    have b := len_op 5 [u8 x.m] s0
    generalize opM 5 [u8 x.m] s0 = s1 at *
    have c := len_op 4 [u8 x.m] s1
    generalize opM 4 [u8 x.m] s1 = s2 at *
    have d := len_push P x.n s2
    generalize pushM P x.n s2 = s3 at *
    have e := len_op 19 [] s3
    generalize opM 19 [] s3 = s4 at *
    have f := len_ahead 31 [] s4
    generalize aheadM 31 [] s4 = s5 at *
    have g := q s5
    generalize seqM sub s5 = s6 at *
    have c' := len_op 4 [u8 x.m] s6
    generalize opM 4 [u8 x.m] s6 = s7 at *
    have d' := len_push P 1 s7
    generalize pushM P 1 s7 = s8 at *
    have e' := len_op 10 [] s8
    generalize opM 10 [] s8 = s9 at *
    have f' := len_op 5 [u8 x.m] s9
    generalize opM 5 [u8 x.m] s9 = s10 at *
    have k := len_wide 30 s1.b.length s10
    generalize wideM 30 s1.b.length s10 = s11 at *
    have k' := len_here (holeM s5) s11
    simp only [List.length_nil, List.length_cons] at *
    omega
  rw [if_neg c8] at hs'
  by_cases c9 : x.op = 15
  · rw [if_pos c9] at hs'; subst hs'
    unfold eachM; dsimp only
    have a := len_need (P.ints 1) s
    generalize needM (P.ints 1) s = s0 at *
    have b := n0 s0
    generalize nthM sub 0 s0 = s1 at *
    have c := len_op 5 [u8 x.m] s1
    generalize opM 5 [u8 x.m] s1 = s2 at *
    have d := len_push P 0 s2
    generalize pushM P 0 s2 = s3 at *
    have e := len_op 5 [u8 (u8 x.m + 1)] s3
    generalize opM 5 [u8 (u8 x.m + 1)] s3 = s4 at *
    have f := len_ahead 32 [u8 x.m, u8 (u8 x.m + 1)] s4
    generalize aheadM 32 [u8 x.m, u8 (u8 x.m + 1)] s4 = s5 at *
    have g := len_op 5 [u8 x.n] s5
    generalize opM 5 [u8 x.n] s5 = s6 at *
    have i := n1 s6
    generalize nthM sub 1 s6 = s7 at *
    have k := len_wide 30 s4.b.length s7
    generalize wideM 30 s4.b.length s7 = s8 at *
    have k' := len_here (holeM s5) s8
    simp only [List.length_nil, List.length_cons] at *
    omega
  rw [if_neg c9] at hs'
  by_cases c20 : x.op = 49
  · rw [if_pos c20] at hs'; subst hs'
    have c := len_op 46 [u8 x.n] (seqM sub s); simp only [List.length_nil, List.length_cons] at c; omega
  rw [if_neg c20] at hs'
  by_cases c21 : x.op = 19
  · rw [if_pos c21] at hs'; subst hs'
    have c := len_op 60 [u8 x.n] (seqM sub s); simp only [List.length_nil, List.length_cons] at c; omega
  rw [if_neg c21] at hs'
  by_cases c22 : x.op = 11 ∨ x.op = 12
  · rw [if_pos c22] at hs'; subst hs'
    have c := len_op 5 [u8 x.n] (seqM sub s); simp only [List.length_nil, List.length_cons] at c; omega
  rw [if_neg c22] at hs'
  cases hp : plainC x.op with
  | none => rw [hp] at hs'; dsimp only at hs'; subst hs'; omega
  | some c => rw [hp] at hs'; dsimp only at hs'; subst hs'; have c := len_op c [] (seqM sub s); simp only [List.length_nil, List.length_cons] at c; omega
theorem ems_gr (P : Pl) : ∀ f : Fo, All2 Gr (ems P f) (szs f)
  | .nil => .nil
  | .cons x ks r => .cons (by have := step_gr P x ks.heads (ems_gr P ks); rwa [szs_sum] at this) (ems_gr P r)
end Go.Proofs.Tab
