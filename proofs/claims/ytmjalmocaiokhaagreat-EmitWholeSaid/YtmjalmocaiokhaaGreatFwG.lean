/- The walking layer, part G: regions in the order of the text, and regions whose order is open. No condition. -/
import Derived.Test.YtmjalmocaiokhaaGreatFwF
set_option linter.unusedVariables false
set_option linter.unusedSimpArgs false
namespace Go.Fw
open Go

noncomputable def putX (C : Ctx) (dst : Option Nat) (s : SV) (ρ : List (Nat × SV)) (k : List (Nat × SV) → Prop) : Prop :=
  Option.casesOn (motive := fun _ => Prop) dst (k ρ) fun d => bif Nat.ble (Nat.succ d) C.n then k ((d, s) :: ρ) else False

noncomputable def beqB (a b : Bool) : Bool := bif a then b else !b

/-- Is an operation with a guard carried out? -/
noncomputable def guardX (C : Ctx) (all : List Oper) (g : Option (Nat × Bool)) (ρ : List (Nat × SV)) (run skip : List (Nat × SV) → Prop) : Prop :=
  match g with
  | none => run ρ
  | some (j, want) => nthL all j fun oj => match oj.dst with
    | none => False
    | some t => lk ρ t fun s => match s with
      | .kb b => bif Nat.ble (Nat.succ t) C.n then (bif beqB b want then run ρ else skip ρ) else False
      | .v (.bool b) => EvSplit b fun b' => bif Nat.ble (Nat.succ t) C.n then (bif beqB b' want then run ((t, .kb b') :: ρ) else skip ((t, .kb b') :: ρ)) else False
      | .v (.tuple vs) => bif Nat.ble (Nat.succ t) C.n then skip ρ else False
      | _ => False

noncomputable def opsX (C : Ctx) (P : Program) (all : List Oper) (l : List Oper) : List (Nat × SV) → List Box → Nat → World → (St → World → Prop) → Prop :=
  List.rec (motive := fun _ => List (Nat × SV) → List Box → Nat → World → (St → World → Prop) → Prop)
    (fun ρ bx nb w K => K ⟨ρ, bx, nb⟩ w)
    (fun o _ ih ρ bx nb w K => guardX C all o.guard ρ
      (fun ρ => opX C P false o ρ bx nb w fun s bx nb w => putX C o.dst s ρ fun ρ => ih ρ bx nb w K)
      (fun ρ => putX C o.dst (.v undef) ρ fun ρ => ih ρ bx nb w K)) l

/-- The state of the walk and the frame and the world. -/
structure Rel (C : Ctx) (ρ : List (Nat × SV)) (bx : List Box) (nb : Nat) (a : Act) (w : World) : Prop where
  sz : a.tmps.size = C.n
  df : a.defers = []
  A : RelA ρ bx nb a
  B : RelB bx w
  N : RelN bx nb

section
variable {C : Ctx} {P : Program}

theorem look_cons (ρ : List (Nat × SV)) (d t : Nat) (s : SV) : look ((d, s) :: ρ) t = bif Nat.beq d t then some s else look ρ t := rfl

theorem RelA.put {ρ : List (Nat × SV)} {bx : List Box} {nb : Nat} {a : Act} (h : RelA ρ bx nb a) {d : Nat} {s : SV} (hs : SVok bx nb s) (hd : d < a.tmps.size) :
    RelA ((d, s) :: ρ) bx nb (a.put (some d) s.den) := by
  intro t u hu
  rw [look_cons] at hu
  cases hb : Nat.beq d t
  · simp only [hb, cond_false] at hu
    have hne : d ≠ t := fun e => by rw [e] at hb; simp at hb
    refine ⟨?_, (h t u hu).2⟩
    rw [← (h t u hu).1]
    simp [Act.put, Array.getElem?_setIfInBounds_ne hne]
  · simp only [hb, cond_true] at hu
    injection hu with hu
    subst hu
    obtain rfl := Nat.eq_of_beq_eq_true hb
    refine ⟨?_, hs⟩
    simp [Act.put, hd]

theorem RelA.same {ρ : List (Nat × SV)} {bx : List Box} {nb : Nat} {a : Act} (h : RelA ρ bx nb a) {d : Nat} {s : SV} (hs : SVok bx nb s) (hv : a.tmps.getD d undef = s.den) :
    RelA ((d, s) :: ρ) bx nb a := by
  intro t u hu
  rw [look_cons] at hu
  cases hb : Nat.beq d t
  · simp only [hb, cond_false] at hu
    exact h t u hu
  · simp only [hb, cond_true] at hu
    injection hu with hu
    subst hu
    obtain rfl := Nat.eq_of_beq_eq_true hb
    exact ⟨hv, hs⟩

theorem RelA.ext {ρ : List (Nat × SV)} {bx bx' : List Box} {nb nb' : Nat} {a : Act} (h : RelA ρ bx nb a) (he : Ext bx bx' nb nb') : RelA ρ bx' nb' a :=
  fun t s hs => ⟨(h t s hs).1, he.ok s (h t s hs).2⟩

theorem putX_ok {dst : Option Nat} {s : SV} {ρ : List (Nat × SV)} {k : List (Nat × SV) → Prop} (h : putX C dst s ρ k) {bx : List Box} {nb : Nat} {a : Act} (hA : RelA ρ bx nb a)
    (hz : a.tmps.size = C.n) (hd : a.defers = []) (hs : SVok bx nb s) :
    ∃ ρ', k ρ' ∧ RelA ρ' bx nb (a.put dst s.den) ∧ (a.put dst s.den).tmps.size = C.n ∧ (a.put dst s.den).defers = [] := by
  cases dst with
  | none => exact ⟨ρ, h, hA, hz, hd⟩
  | some d =>
    unfold putX at h
    cases hb : Nat.ble (Nat.succ d) C.n
    · simp only [hb, cond_false] at h
    · simp only [hb, cond_true] at h
      have hlt : d < a.tmps.size := by rw [hz]; exact Nat.le_of_ble_eq_true hb
      exact ⟨_, h, hA.put hs hlt, by simp [Act.put, hz], by simp [Act.put, hd]⟩

theorem guardX_ok {all : List Oper} {ops : Array Oper} (hall : ops.toList = all) {o : Oper} {ρ : List (Nat × SV)} {run skip : List (Nat × SV) → Prop} (h : guardX C all o.guard ρ run skip)
    {bx : List Box} {nb : Nat} {a : Act} (hA : RelA ρ bx nb a) (hz : a.tmps.size = C.n) :
    (Region.wanted o (yielded ops a.tmps) = true ∧ ∃ ρ', run ρ' ∧ RelA ρ' bx nb a) ∨ (Region.wanted o (yielded ops a.tmps) = false ∧ ∃ ρ', skip ρ' ∧ RelA ρ' bx nb a) := by
  unfold guardX at h
  unfold Region.wanted
  split at h
  · rename_i hg
    left
    rw [hg]
    exact ⟨rfl, ρ, h, hA⟩
  · rename_i j want hg
    rw [hg]
    obtain ⟨oj, h1, h⟩ := nthL_iff h
    have h1' : ops[j]? = some oj := by rw [← hall] at h1; simpa using h1
    split at h
    · exact h.elim
    · rename_i t ht
      obtain ⟨s, h2, h⟩ := lk_iff h
      obtain ⟨h3, h4⟩ := hA t s h2
      have hy : ∀ v : Value, s.den = v → t < a.tmps.size → a.tmps[t]? = some v := by
        intro v hv hlt
        rw [← hv, ← h3]
        simp [hlt]
      split at h
      · rename_i b
        cases hb : Nat.ble (Nat.succ t) C.n
        · simp only [hb, cond_false] at h
        · simp only [hb, cond_true] at h
          have hlt : t < a.tmps.size := by rw [hz]; exact Nat.le_of_ble_eq_true hb
          have hyy : yielded ops a.tmps j = some b := by
            unfold yielded
            simp [h1', ht, hy (.bool b) rfl hlt]
          dsimp only
          rw [hyy]
          cases b <;> cases want <;> first
            | exact .inl ⟨rfl, _, h, hA⟩
            | exact .inr ⟨rfl, _, h, hA⟩
      · rename_i b
        obtain ⟨h⟩ := h
        cases hb : Nat.ble (Nat.succ t) C.n
        · simp only [hb, cond_false] at h
        · simp only [hb, cond_true] at h
          have hlt : t < a.tmps.size := by rw [hz]; exact Nat.le_of_ble_eq_true hb
          have hyy : yielded ops a.tmps j = some b := by
            unfold yielded
            simp [h1', ht, hy (.bool b) rfl hlt]
          have hA' : RelA ((t, .kb b) :: ρ) bx nb a := hA.same (SVok.kb _) h3
          dsimp only
          rw [hyy]
          cases b <;> cases want <;> first
            | exact .inl ⟨rfl, _, h, hA'⟩
            | exact .inr ⟨rfl, _, h, hA'⟩
      · rename_i vs
        cases hb : Nat.ble (Nat.succ t) C.n
        · simp only [hb, cond_false] at h
        · simp only [hb, cond_true] at h
          have hlt : t < a.tmps.size := by rw [hz]; exact Nat.le_of_ble_eq_true hb
          right
          have hyy : yielded ops a.tmps j = none := by
            unfold yielded
            simp [h1', ht, hy (.tuple vs) rfl hlt]
          dsimp only
          rw [hyy]
          exact ⟨rfl, ρ, h, hA⟩
      · exact h.elim

/-- The exit of a walked piece, as the model's. -/
def Post (C : Ctx) (K : Exit → St → World → Prop) : Exit → Act → World → Prop :=
  fun e a w => ∃ s, K e s w ∧ Rel C s.ρ s.bx s.nb a w

theorem opsX_ok (hC : COk C P) {all : List Oper} {ops : Array Oper} (hall : ops.toList = all) {K : Exit → St → World → Prop} : ∀ (l : List Oper) (ρ : List (Nat × SV)) (bx : List Box) (nb : Nat) (a : Act) (w : World),
    opsX C P all l ρ bx nb w (fun s w => K .normal s w) → Rel C ρ bx nb a w → wpList P ops (Post C K) l a w
  | [], ρ, bx, nb, a, w, h, hR => ⟨⟨ρ, bx, nb⟩, h, hR⟩
  | o :: l, ρ, bx, nb, a, w, h, hR => by
    have h' : guardX C all o.guard ρ
      (fun ρ => opX C P false o ρ bx nb w fun s bx nb w => putX C o.dst s ρ fun ρ => opsX C P all l ρ bx nb w (fun s w => K .normal s w))
      (fun ρ => putX C o.dst (.v undef) ρ fun ρ => opsX C P all l ρ bx nb w (fun s w => K .normal s w)) := h
    simp only [wpList]
    rcases guardX_ok hall h' hR.A hR.sz with ⟨hw, ρ', hrun, hA'⟩ | ⟨hw, ρ', hskip, hA'⟩
    · rw [if_pos hw]
      left
      refine op_ok hC hA' hR.B hR.N hrun _ _ fun s bx' nb' w' hK hs hB' hN' he _ => ?_
      obtain ⟨ρ'', g1, g2, g3, g4⟩ := putX_ok hK (hA'.ext he) hR.sz hR.df hs
      exact opsX_ok hC hall l ρ'' bx' nb' _ w' g1 ⟨g3, g4, g2, hB', hN'⟩
    · rw [hw]
      obtain ⟨ρ'', g1, g2, g3, g4⟩ := putX_ok hskip hA' hR.sz hR.df (SVok.val undef)
      exact opsX_ok hC hall l ρ'' bx nb _ w g1 ⟨g3, g4, g2, hR.B, hR.N⟩

/-! ### Regions whose order is open -/

variable {ops : Array Oper} {Q : Exit → Act → World → Prop}

/-- Whatever comes up, all that it waits for has come up. -/
def Closed (ops : Array Oper) (listed : Array Bool) : Prop :=
  ∀ k ok, ops[k]? = some ok → listed.getD k false = true → ∀ e ∈ ok.after, Region.binds .any e = true → listed.getD e.on false = true

theorem Closed.init (n : Nat) : Closed ops (Array.replicate n false) := by
  intro k ok _ h
  exfalso
  simp [Array.getElem?_replicate] at h
  split at h <;> simp at h

theorem Closed.set {listed : Array Bool} (h : Closed ops listed) {j : Nat} (hj : j ∈ Region.ready .any ops listed) : Closed ops (listed.setIfInBounds j true) := by
  intro k ok hk hl e he hb
  by_cases hjk : j = k
  · subst hjk
    obtain ⟨_, o, ho, hall⟩ := mem_ready.1 hj
    rw [hk] at ho
    injection ho with ho
    subst ho
    exact getD_set_true (hall e he hb)
  · rw [getD_set_ne false hjk] at hl
    exact getD_set_true (h k ok hk hl e he hb)

/-- l waits for i, at once or by way of others. -/
def waits (ops : Array Oper) : Nat → Nat → Nat → Bool
  | 0, _, _ => false
  | f + 1, l, i => match ops[l]? with
    | none => false
    | some o => o.after.any fun e => Region.binds .any e && (e.on == i || waits ops f e.on i)

theorem waits_ok {listed : Array Bool} (hc : Closed ops listed) : ∀ (f l i : Nat), waits ops f l i = true → listed.getD l false = true → listed.getD i false = true
  | 0, _, _, h, _ => by simp [waits] at h
  | f + 1, l, i, h, hl => by
    simp only [waits] at h
    split at h
    · cases h
    · rename_i o ho
      obtain ⟨e, he, h1⟩ := Array.any_eq_true'.1 h
      simp only [Bool.and_eq_true, Bool.or_eq_true, beq_iff_eq] at h1
      have h2 := hc l o ho hl e he h1.1
      rcases h1.2 with h3 | h3
      · rw [← h3]; exact h2
      · exact waits_ok hc f e.on i h3 h2

/-- Whatever order is picked; behind each operation S holds, which may hang on what has come up. -/
def wpAnyE (P : Program) (ops : Array Oper) (Q : Exit → Act → World → Prop) (S : Array Bool → World → Prop) : Nat → Array Bool → Act → World → Prop
  | 0, listed, a, w => Region.ready .any ops listed = [] ∧ Q .normal a w
  | fuel + 1, listed, a, w => (Region.ready .any ops listed = [] → Q .normal a w) ∧
    ∀ i ∈ Region.ready .any ops listed, wpOp P ops Q i (fun a' w' => S (listed.setIfInBounds i true) w' ∧ wpAnyE P ops Q S fuel (listed.setIfInBounds i true) a' w') a w

theorem wpAny_of_E {S : Array Bool → World → Prop} : ∀ (fuel : Nat) (listed : Array Bool) (a : Act) (w : World), wpAnyE P ops Q S fuel listed a w → wpAny P .any ops Q fuel listed a w
  | 0, _, _, _, h => h
  | fuel + 1, _, _, _, h => ⟨h.1, fun i hi => wpOp_mono (fun a' w' h' => wpAny_of_E fuel _ a' w' h'.2) (h.2 i hi)⟩

theorem wpAnyE_first {S : Array Bool → World → Prop} {T : World → Prop} {i : Nat} {oi : Oper} {v : Value} (hi : ops[i]? = some oi)
    (hsel : ∀ (j : Nat) (o : Oper) cs b, ops[j]? = some o → o.op ≠ .select cs b)
    (hQ : ∀ c a w, Q (.panic c) (a.put oi.dst v) w → Q (.panic c) a w)
    (hSi : ∀ listed w, S (listed.setIfInBounds i true) w ↔ S listed w)
    (hST : ∀ listed w, Closed ops listed → listed.getD i true = false → S listed w → T w) :
    ∀ (fuel : Nat) (listed : Array Bool) (a : Act) (w : World), Closed ops listed →
      (∀ j oj, ops[j]? = some oj → j ≠ i → listed.getD j true = false → (∀ e ∈ oj.after, Region.binds .any e = true → e.on ≠ i) → oi.apart ops oj = true) →
      i ∈ Region.ready .any ops listed → YieldsIf P ops T oi v a → S listed w →
      wpAnyE P ops Q S fuel (listed.setIfInBounds i true) (a.put oi.dst v) w → wpAnyE P ops Q S (fuel + 1) listed a w := by
  intro fuel
  induction fuel with
  | zero =>
    intro listed a w hcl _ hr hy hS H
    refine ⟨fun h => (by rw [h] at hr; cases hr), fun j hj => ?_⟩
    by_cases hji : j = i
    · subst hji
      exact hy.wpOp hi (hST _ _ hcl (mem_ready.1 hr).1 hS) ⟨(hSi _ _).2 hS, H⟩
    · have := ready_mono hj hji
      rw [H.1] at this
      cases this
  | succ fuel ih =>
    intro listed a w hcl hfree hr hy hS H
    refine ⟨fun h => (by rw [h] at hr; cases hr), fun j hj => ?_⟩
    by_cases hji : j = i
    · subst hji
      exact hy.wpOp hi (hST _ _ hcl (mem_ready.1 hr).1 hS) ⟨(hSi _ _).2 hS, H⟩
    · have h1 := H.2 j (ready_mono hj hji)
      obtain ⟨hjun, oj, hoj, hall⟩ := mem_ready.1 hj
      have hnot : ∀ e ∈ oj.after, Region.binds .any e = true → e.on ≠ i := by
        intro e he hb heq
        have h2 := hall e he hb
        have h0 := (mem_ready.1 hr).1
        rw [heq] at h2
        rcases Nat.lt_or_ge i listed.size with h' | h'
        · simp [h'] at h0 h2; rw [h0] at h2; cases h2
        · simp [Array.getElem?_eq_none h'] at h2
      have h2 := wpOp_putIf hoj (hfree j oj hoj hji hjun hnot) (fun cs b => hsel i oi cs b hi) (fun cs b => hsel j oj cs b hoj) hQ hy h1
      have hcomm : (listed.setIfInBounds i true).setIfInBounds j true = (listed.setIfInBounds j true).setIfInBounds i true := Array.setIfInBounds_comm _ _ (Ne.symm hji)
      refine wpOp_mono (fun a' w' h3 => ?_) h2
      obtain ⟨h4, h5, h6⟩ := h3
      rw [hcomm] at h5 h6
      have h5' := (hSi _ _).1 h5
      refine ⟨h5', ih (listed.setIfInBounds j true) a' w' (hcl.set hj) ?_ (ready_mono hr (Ne.symm hji)) h4 h5' h6⟩
      intro k ok hk hki hun hno
      refine hfree k ok hk hki ?_ hno
      by_cases hjk : j = k
      · subst hjk; exact hjun
      · rw [getD_set_ne true hjk] at hun; exact hun
end
end Go.Fw
