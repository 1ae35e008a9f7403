/- The walking layer, part H: regions whose order is open; code; functions. No condition. -/
import Derived.Test.YtmjalmocaiokhaaGreatFwG
set_option linter.unusedVariables false
set_option linter.unusedSimpArgs false
namespace Go.Fw
open Go

/-- In which order a region's operations are met. 'two': either may come next. -/
inductive Plan where
  | done
  | take (i : Nat) (rd : Bool) (p : Plan)
  | exec (i : Nat) (p : Plan)
  | two (i : Nat) (p : Plan) (j : Nat) (q : Plan)

def Plan.len : Plan → Nat
  | .done => 0
  | .take _ _ p => p.len + 1
  | .exec _ p => p.len + 1
  | .two _ p _ _ => p.len + 1

/-- Is the plan one that the region's edges allow? 'l': behind this operation nothing that was read need stand any more. -/
def planOk (ops : Array Oper) (l : Option Nat) : Plan → Array Bool → Bool
  | .done, listed => (Region.ready .any ops listed).isEmpty
  | .take i rd r, listed => (Region.ready .any ops listed).contains i && Region.free .any ops listed i && (match l with | some l => l != i && (!rd || waits ops ops.size l i) | none => true) &&
      planOk ops l r (listed.setIfInBounds i true)
  | .exec i r, listed => Region.ready .any ops listed == [i] && planOk ops l r (listed.setIfInBounds i true)
  | .two i r j q, listed => Region.ready .any ops listed == [i, j] && q.len == r.len && planOk ops l r (listed.setIfInBounds i true) && planOk ops l q (listed.setIfInBounds j true)

def planOk0 (ops : Array Oper) (l : Option Nat) (p : Plan) : Bool :=
  Region.noSelect ops && planOk ops l p (Array.replicate ops.size false) && p.len == ops.size

noncomputable def isL (l : Option Nat) (i : Nat) : Bool := match l with | some l => Nat.beq l i | none => false

/-- Either operation may come next. -/
structure EvTwo (A B : Prop) : Prop where
  l : A
  r : B

/-- What is to be shown behind an operation that was carried out. -/
noncomputable def after (b : Bool) (S : World → Prop) (w : World) (K : Prop) : Prop := bif b then K else (S w ∧ K)

noncomputable def execX (C : Ctx) (P : Program) (all : List Oper) (S : World → Prop) (l : Option Nat) (i : Nat) (ρ : List (Nat × SV)) (bx : List Box) (nb : Nat) (w : World) (k : List (Nat × SV) → World → Prop) : Prop :=
  nthL all i fun o => guardX C all o.guard ρ
    (fun ρ => opX C P true o ρ bx nb w fun s bx' nb' w' => after (isL l i) S w' (putX C o.dst s ρ fun ρ => k ρ w'))
    (fun ρ => after (isL l i) S w (putX C o.dst (.v undef) ρ fun ρ => k ρ w))

noncomputable def planX (C : Ctx) (P : Program) (all : List Oper) (S : World → Prop) (l : Option Nat) (p : Plan) : List (Nat × SV) → List Box → Nat → World → (St → World → Prop) → Prop :=
  Plan.rec (motive := fun _ => List (Nat × SV) → List Box → Nat → World → (St → World → Prop) → Prop)
    (fun ρ bx nb w K => K ⟨ρ, bx, nb⟩ w)
    (fun i rd _ ih ρ bx nb w K => nthL all i fun o => guardX C all o.guard ρ
        (fun ρ => bif rd then (pureX C P (takeH P fun w => S w ∧ RelB bx w) o.op o.type ρ bx fun s => putX C o.dst s ρ fun ρ => ih ρ bx nb w K)
          else (pureX C P (takeH P fun _ => True) o.op o.type ρ [] fun s => (match s with | .v v => putX C o.dst (.v v) ρ fun ρ => ih ρ bx nb w K | .kb b => putX C o.dst (.kb b) ρ fun ρ => ih ρ bx nb w K | .bp _ _ _ => False)))
        (fun ρ => putX C o.dst (.v undef) ρ fun ρ => ih ρ bx nb w K))
    (fun i _ ih ρ bx nb w K => execX C P all S l i ρ bx nb w fun ρ w' => ih ρ bx nb w' K)
    (fun i _ j _ ih ih' ρ bx nb w K => EvTwo (execX C P all S l i ρ bx nb w fun ρ w' => ih ρ bx nb w' K) (execX C P all S l j ρ bx nb w fun ρ w' => ih' ρ bx nb w' K)) p

section
variable {C : Ctx} {P : Program}

/-- The exit of a region: by its end alone. -/
def PostN (C : Ctx) (K : St → World → Prop) : Exit → Act → World → Prop
  | .normal, a, w => ∃ s, K s w ∧ Rel C s.ρ s.bx s.nb a w
  | _, _, _ => False

theorem getD_tf {listed : Array Bool} {i : Nat} (h : listed.getD i true = false) : listed.getD i false = false := by
  rcases Nat.lt_or_ge i listed.size with h' | h'
  · simp [h'] at h ⊢; exact h
  · simp [Array.getElem?_eq_none h']

def LS (l : Option Nat) (S : World → Prop) (bx : List Box) (listed : Array Bool) (w : World) : Prop :=
  (∃ k, l = some k ∧ listed.getD k false = true) ∨ (S w ∧ RelB bx w)

theorem execX_ok (hC : COk C P) {ops : Array Oper} {S : World → Prop} {l : Option Nat} {bx : List Box} {nb : Nat} {Q : Exit → Act → World → Prop} {i : Nat} {listed : Array Bool} {ρ : List (Nat × SV)} {a : Act} {w : World} {k : List (Nat × SV) → World → Prop} {N : Act → World → Prop}
    (hin : i ∈ Region.ready .any ops listed) (h : execX C P ops.toList S l i ρ bx nb w k) (hR : Rel C ρ bx nb a w)
    (hn : ∀ ρ' a' w', k ρ' w' → Rel C ρ' bx nb a' w' → LS l S bx (listed.setIfInBounds i true) w' → N a' w') :
    wpOp P ops Q i (fun a' w' => LS l S bx (listed.setIfInBounds i true) w' ∧ N a' w') a w := by
  have h' : nthL ops.toList i fun o => guardX C ops.toList o.guard ρ
      (fun ρ => opX C P true o ρ bx nb w fun s bx' nb' w' => after (isL l i) S w' (putX C o.dst s ρ fun ρ => k ρ w'))
      (fun ρ => after (isL l i) S w (putX C o.dst (.v undef) ρ fun ρ => k ρ w)) := h
  obtain ⟨o, ho, h1⟩ := nthL_iff h'
  have ho' : ops[i]? = some o := by simpa using ho
  have hlt : i < listed.size → (listed.setIfInBounds i true).getD i false = true := by
    intro hl; simp [hl]
  have aft : ∀ {w' : World} {K' : Prop}, RelB bx w' → after (isL l i) S w' K' → LS l S bx (listed.setIfInBounds i true) w' ∧ K' := by
    intro w' K' hB' ha
    unfold after at ha
    cases hb : isL l i
    · simp only [hb, cond_false] at ha
      exact ⟨.inr ⟨ha.1, hB'⟩, ha.2⟩
    · simp only [hb, cond_true] at ha
      refine ⟨.inl ?_, ha⟩
      unfold isL at hb
      split at hb
      · rename_i k
        obtain rfl := Nat.eq_of_beq_eq_true hb
        refine ⟨k, rfl, hlt ?_⟩
        have := (mem_ready.1 hin).1
        rcases Nat.lt_or_ge k listed.size with h' | h'
        · exact h'
        · simp [Array.getElem?_eq_none h'] at this
      · cases hb
  unfold wpOp
  simp only [ho']
  rcases guardX_ok (ops := ops) rfl h1 hR.A hR.sz with ⟨hw, ρ', hrun, hA'⟩ | ⟨hw, ρ', hskip, hA'⟩
  · rw [if_pos hw]
    left
    refine op_ok hC hA' hR.B hR.N hrun _ _ fun s bx' nb' w' hK hs' hB' hN' he hdr => ?_
    obtain ⟨rfl, rfl⟩ := hdr rfl
    obtain ⟨g1, g2⟩ := aft hB' hK
    obtain ⟨ρ'', k1, k2, k3, k4⟩ := putX_ok g2 hA' hR.sz hR.df hs'
    exact ⟨g1, hn ρ'' _ w' k1 ⟨k3, k4, k2, hB', hR.N⟩ g1⟩
  · rw [hw]
    obtain ⟨g1, g2⟩ := aft hR.B hskip
    obtain ⟨ρ'', k1, k2, k3, k4⟩ := putX_ok g2 hA' hR.sz hR.df (SVok.val undef)
    exact ⟨g1, hn ρ'' _ w k1 ⟨k3, k4, k2, hR.B, hR.N⟩ g1⟩

theorem planX_ok (hC : COk C P) {ops : Array Oper} {S : World → Prop} {l : Option Nat} (hs : Region.noSelect ops = true) {bx : List Box} {nb : Nat} {K : St → World → Prop} :
    ∀ (p : Plan) (listed : Array Bool) (ρ : List (Nat × SV)) (a : Act) (w : World), planOk ops l p listed = true → Closed ops listed →
      planX C P ops.toList S l p ρ bx nb w K → Rel C ρ bx nb a w → LS l S bx listed w →
      wpAnyE P ops (PostN C K) (LS l S bx) p.len listed a w
  | .done, listed, ρ, a, w, hp, hc, h, hR, hS => by
    simp only [planOk, List.isEmpty_iff] at hp
    exact ⟨hp, ⟨ρ, bx, nb⟩, h, hR⟩
  | .take i rd p, listed, ρ, a, w, hp, hc, h, hR, hS => by
    simp only [planOk, Bool.and_eq_true] at hp
    obtain ⟨⟨⟨hp1, hp2⟩, hp3⟩, hp4⟩ := hp
    have hin : i ∈ Region.ready .any ops listed := by simpa using hp1
    have h' : nthL ops.toList i fun o => guardX C ops.toList o.guard ρ
        (fun ρ => bif rd then (pureX C P (takeH P fun w => S w ∧ RelB bx w) o.op o.type ρ bx fun s => putX C o.dst s ρ fun ρ => planX C P ops.toList S l p ρ bx nb w K)
          else (pureX C P (takeH P fun _ => True) o.op o.type ρ [] fun s => (match s with | .v v => putX C o.dst (.v v) ρ fun ρ => planX C P ops.toList S l p ρ bx nb w K | .kb b => putX C o.dst (.kb b) ρ fun ρ => planX C P ops.toList S l p ρ bx nb w K | .bp _ _ _ => False)))
        (fun ρ => putX C o.dst (.v undef) ρ fun ρ => planX C P ops.toList S l p ρ bx nb w K) := h
    obtain ⟨o, ho, h1⟩ := nthL_iff h'
    have ho' : ops[i]? = some o := by simpa using ho
    have hne : ∀ k, l = some k → k ≠ i := by
      rintro k rfl
      simp only [Bool.and_eq_true, bne_iff_ne] at hp3
      exact hp3.1
    have hSi : ∀ listed w, LS l S bx (listed.setIfInBounds i true) w ↔ LS l S bx listed w := by
      intro listed w
      unfold LS
      constructor
      · rintro (⟨k, hk, h2⟩ | h2)
        · rw [getD_set_ne false (Ne.symm (hne k hk))] at h2
          exact .inl ⟨k, hk, h2⟩
        · exact .inr h2
      · rintro (⟨k, hk, h2⟩ | h2)
        · exact .inl ⟨k, hk, by rw [getD_set_ne false (Ne.symm (hne k hk))]; exact h2⟩
        · exact .inr h2
    have fin : ∀ {T : World → Prop} {v : Value}, (∀ listed w, Closed ops listed → listed.getD i true = false → LS l S bx listed w → T w) → YieldsIf P ops T o v a →
        wpAnyE P ops (PostN C K) (LS l S bx) p.len (listed.setIfInBounds i true) (a.put o.dst v) w → wpAnyE P ops (PostN C K) (LS l S bx) (p.len + 1) listed a w :=
      fun hST hy H => wpAnyE_first ho' (Region.noSelect_spec hs) (fun _ _ _ h => h.elim) hSi hST p.len listed a w hc (Region.free_spec ho' hp2) hin hy hS H
    have goOn : ∀ (ρ' : List (Nat × SV)) (a' : Act), planX C P ops.toList S l p ρ' bx nb w K → Rel C ρ' bx nb a' w → wpAnyE P ops (PostN C K) (LS l S bx) p.len (listed.setIfInBounds i true) a' w :=
      fun ρ' a' hX hR' => planX_ok hC hs p _ ρ' a' w hp4 (hc.set hin) hX hR' ((hSi _ _).2 hS)
    rcases guardX_ok (ops := ops) rfl h1 hR.A hR.sz with ⟨hw, ρ', hrun, hA'⟩ | ⟨hw, ρ', hskip, hA'⟩
    · cases rd
      · simp only [cond_false] at hrun
        have hA0 : RelA ρ' [] nb a := fun t s hts => ⟨(hA' t s hts).1, fun i r o e => ⟨((hA' t s hts).2 i r o e).1, by simp⟩⟩
        obtain ⟨s, g1, g2, g3⟩ := pure_ok hC (takeH_ok P fun _ => True) hA0 (fun _ _ _ hb => absurd hb (by simp)) hrun
        cases s with
        | bp i r q => exact g3.elim
        | v u =>
          obtain ⟨ρ'', k1, k2, k3, k4⟩ := putX_ok g3 hA' hR.sz hR.df (SVok.val u)
          exact fin (T := fun _ => True) (fun _ _ _ _ _ => trivial) (.inl ⟨hw, g2⟩) (goOn ρ'' _ k1 ⟨k3, k4, k2, hR.B, hR.N⟩)
        | kb u =>
          obtain ⟨ρ'', k1, k2, k3, k4⟩ := putX_ok g3 hA' hR.sz hR.df (SVok.kb u)
          exact fin (T := fun _ => True) (fun _ _ _ _ _ => trivial) (.inl ⟨hw, g2⟩) (goOn ρ'' _ k1 ⟨k3, k4, k2, hR.B, hR.N⟩)
      · simp only [cond_true] at hrun
        obtain ⟨s, g1, g2, g3⟩ := pure_ok hC (takeH_ok P fun w => S w ∧ RelB bx w) hA' (fun w hw => hw.2) hrun
        obtain ⟨ρ'', k1, k2, k3, k4⟩ := putX_ok g3 hA' hR.sz hR.df g1
        refine fin (T := fun w => S w ∧ RelB bx w) (fun listed w hcl hun hLS => ?_) (.inl ⟨hw, g2⟩) (goOn ρ'' _ k1 ⟨k3, k4, k2, hR.B, hR.N⟩)
        rcases hLS with ⟨k, rfl, hk⟩ | h2
        · simp only [Bool.and_eq_true, Bool.not_true, Bool.false_or] at hp3
          have := waits_ok hcl _ _ _ hp3.2 hk
          rw [getD_tf hun] at this
          cases this
        · exact h2
    · obtain ⟨ρ'', k1, k2, k3, k4⟩ := putX_ok hskip hA' hR.sz hR.df (SVok.val undef)
      exact fin (T := fun _ => True) (fun _ _ _ _ _ => trivial) (.inr ⟨hw, rfl⟩) (goOn ρ'' _ k1 ⟨k3, k4, k2, hR.B, hR.N⟩)
  | .exec i p, listed, ρ, a, w, hp, hc, h, hR, hS => by
    simp only [planOk, Bool.and_eq_true, beq_iff_eq] at hp
    obtain ⟨hp1, hp2⟩ := hp
    have hin : i ∈ Region.ready .any ops listed := by rw [hp1]; simp
    refine ⟨(fun h0 => by rw [h0] at hin; cases hin), fun j hj => ?_⟩
    rw [hp1] at hj
    obtain rfl := List.mem_singleton.1 hj
    exact execX_ok hC hin h hR fun ρ' a' w' h1 h2 h3 => planX_ok hC hs p _ ρ' a' w' hp2 (hc.set hin) h1 h2 h3
  | .two i p j q, listed, ρ, a, w, hp, hc, h, hR, hS => by
    simp only [planOk, Bool.and_eq_true, beq_iff_eq] at hp
    obtain ⟨⟨⟨hp1, hp2⟩, hp3⟩, hp4⟩ := hp
    have hin : i ∈ Region.ready .any ops listed := by rw [hp1]; simp
    have hin' : j ∈ Region.ready .any ops listed := by rw [hp1]; simp
    obtain ⟨h1, h2⟩ := (h : EvTwo (execX C P ops.toList S l i ρ bx nb w fun ρ w' => planX C P ops.toList S l p ρ bx nb w' K) (execX C P ops.toList S l j ρ bx nb w fun ρ w' => planX C P ops.toList S l q ρ bx nb w' K))
    refine ⟨(fun h0 => by rw [h0] at hin; cases hin), fun k hk => ?_⟩
    rw [hp1] at hk
    rcases List.mem_cons.1 hk with rfl | hk
    · exact execX_ok hC hin h1 hR fun ρ' a' w' h1 h2 h3 => planX_ok hC hs p _ ρ' a' w' hp3 (hc.set hin) h1 h2 h3
    · obtain rfl := List.mem_singleton.1 hk
      exact execX_ok hC hin' h2 hR fun ρ' a' w' h1 h2 h3 => by
        have := planX_ok hC hs q _ ρ' a' w' hp4 (hc.set hin') h1 h2 h3
        rwa [hp2] at this

theorem draw_ok (hC : COk C P) (hm : P.follows .mixedOrders = true) {id : Nat} {ops : Array Oper} {ρ : List (Nat × SV)} {bx : List Box} {nb : Nat} {a : Act} {w : World} {K : St → World → Prop}
    {S : World → Prop} {l : Option Nat} {p : Plan} (hp : planOk0 ops l p = true) (hS : S w.drew) (hX : planX C P ops.toList S l p ρ bx nb w.drew K) (hR : Rel C ρ bx nb a w) : (Code.region id ops true).wp P (PostN C K) a w := by
  simp only [planOk0, Bool.and_eq_true, beq_iff_eq] at hp
  obtain ⟨⟨h1, h2⟩, h3⟩ := hp
  refine wp_region_any hm (wpAny_of_E (S := LS l S bx) _ _ _ _ ?_)
  have := planX_ok hC h1 p _ ρ a w.drew h2 (Closed.init _) hX ⟨hR.sz, hR.df, hR.A, hR.B, hR.N⟩ (.inr ⟨hS, hR.B⟩)
  rw [h3] at this
  exact this
end
end Go.Fw
