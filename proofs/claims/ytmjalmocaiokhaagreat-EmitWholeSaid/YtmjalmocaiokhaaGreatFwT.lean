/- The walking layer, part T: frames by the types of blocks. No condition. -/
import Derived.Test.YtmjalmocaiokhaaGreatFwK
set_option linter.unusedVariables false
set_option linter.unusedSimpArgs false
namespace Go.Fw
open Go

/-- The type of a block's cells. -/
def tyOf (w : World) (k : Nat) : Option Nat := match w.heap[k]? with
  | some (.cells _ T _) => some T
  | _ => none

/-- From w to w' no block that stood is changed, but for those of X and those from B on whose type is in 𝒯. -/
structure TF (B : Nat) (X 𝒯 : List Nat) (w w' : World) : Prop where
  os : w'.os = w.os
  tape : w'.tape = w.tape
  output : w'.output = w.output
  size : w.heap.size ≤ w'.heap.size
  block : ∀ k, k < w.heap.size → k ∉ X → (k < B ∨ ∀ T ∈ 𝒯, tyOf w k ≠ some T) → w'.heap[k]? = w.heap[k]?

/-- What a call does: it returns v, and the world behind it. -/
structure RetQ (P : Program) (f : Nat) (args : List Value) (w : World) (R : Value → World → Prop) : Prop where
  en : Enters P f
  h : Calls P f args.toArray w fun e w' => ∃ v, e = .returned v ∧ R v w'

theorem RetQ.mono {P : Program} {f : Nat} {args : List Value} {w : World} {R R' : Value → World → Prop} (h : RetQ P f args w R) (hr : ∀ v w', R v w' → R' v w') : RetQ P f args w R' :=
  ⟨h.en, h.h.mono fun _ _ ⟨v, e, hv⟩ => ⟨v, e, hr v _ hv⟩⟩
theorem Ret.q {P : Program} {f : Nat} {args : List Value} {w : World} {S : List Nat} {R : Value → World → Prop} (h : Ret P f args w S R) : RetQ P f args w fun v w' => Fr S w w' ∧ R v w' := ⟨h.en, h.h⟩

theorem fn_goQ {C : Ctx} {P : Program} (hC : COk C P) (hm : P.follows .mixedOrders = true) {f : Nat} {fn : Func} (hf : P.funcs[f]? = some fn) (hb : fn.body.isSome = true) (hn : fn.ntmps = C.n) (hen : Enters P f)
    {args : List Value} (hl : args.length ≤ C.n) {w : World} {R : Value → World → Prop}
    (h : SW C P (bodyOf fn) ⟨args0 args, [], 0⟩ w (endX C P fn.results.toList R)) : RetQ P f args w R := by
  obtain ⟨c, hc⟩ := Option.isSome_iff_exists.1 hb
  have hbc : bodyOf fn = c := by simp [bodyOf, hc]
  rw [hbc] at h
  exact ⟨hen, fn_ok hC hm hf hc hn hl h⟩

theorem EvCall.retQ {P : Program} {w : World} {L : List Nat} {f : Nat} {args : List Value} {R : Value → World → Prop} {K : Value → World → Prop} (hc : RetQ P f args w R) (hL : ∀ v w', R v w' → Keep L w w')
    (k : ∀ v w', R v w' → K v w') : EvCall P f args.toArray w L K :=
  ⟨hc.en, hc.h.mono fun _ w' ⟨v, e, hv⟩ => ⟨v, e, hL v w' hv, k v w' hv⟩⟩
/-- No block of the walk's own is known. -/
theorem EvCall.retQ0 {P : Program} {w : World} {f : Nat} {args : List Value} {R : Value → World → Prop} {K : Value → World → Prop} (hc : RetQ P f args w R)
    (k : ∀ v w', R v w' → K v w') : EvCall P f args.toArray w [] K := EvCall.retQ hc (fun _ _ _ => fun r hr => absurd hr (by simp)) k

/-- A loop whose exits 'ex' meet again; what comes behind is a variable in the round. -/
theorem EvLoop.meetG {w : World} {run : St → World → (Exit → St → World → Prop) → Prop} {st : St} {K : Exit → St → World → Prop} (ι : Type) (env : ι → St) (I : ι → World → Prop) (μ : ι → Nat) (i₀ : ι) (X : Type) (ex : Exit) (envX : X → St) (IX : X → World → Prop)
    (h1 : SubS (env i₀) st) (h2 : I i₀ w)
    (h3 : ∀ KK : Exit → St → World → Prop, (∀ x s w, SubS (envX x) s → IX x w → KK ex s w) → ∀ i w, I i w → run (env i) w fun e s w' => Exit.casesOn (motive := fun _ => Prop) e (∃ i', SubS (env i') s ∧ I i' w' ∧ μ i' < μ i) (fun id => KK (.exit id) s w') (fun l => KK (.goto l) s w') (KK .ret s w') (fun c => KK (.panic c) s w') (KK .outgrown s w'))
    (h4 : ∀ x w, IX x w → K ex (envX x) w) :
    EvLoop run st w K := EvLoop.meet ι env I μ i₀ X ex envX IX h1 h2 (h3 _ fun x s w a b => Meet.at_ x a b) h4
/-- The same; other exits may be taken as they are. -/
theorem EvLoop.meetG2 {w : World} {run : St → World → (Exit → St → World → Prop) → Prop} {st : St} {K : Exit → St → World → Prop} (ι : Type) (env : ι → St) (I : ι → World → Prop) (μ : ι → Nat) (i₀ : ι) (X : Type) (ex : Exit) (envX : X → St) (IX : X → World → Prop)
    (h1 : SubS (env i₀) st) (h2 : I i₀ w)
    (h3 : ∀ KK : Exit → St → World → Prop, (∀ x s w, SubS (envX x) s → IX x w → KK ex s w) → (∀ e s w, K e s w → KK e s w) → ∀ i w, I i w → run (env i) w fun e s w' => Exit.casesOn (motive := fun _ => Prop) e (∃ i', SubS (env i') s ∧ I i' w' ∧ μ i' < μ i) (fun id => KK (.exit id) s w') (fun l => KK (.goto l) s w') (KK .ret s w') (fun c => KK (.panic c) s w') (KK .outgrown s w'))
    (h4 : ∀ x w, IX x w → K ex (envX x) w) :
    EvLoop run st w K := EvLoop.meet ι env I μ i₀ X ex envX IX h1 h2 (h3 _ (fun x s w a b => Meet.at_ x a b) fun e s w h => Meet.go h) h4

section
variable {B : Nat} {X 𝒯 : List Nat} {w w' : World}
theorem TF.refl (B : Nat) (X 𝒯 : List Nat) (w : World) : TF B X 𝒯 w w := ⟨rfl, rfl, rfl, Nat.le_refl _, fun _ _ _ _ => rfl⟩
theorem tyOf_eq {k : Nat} (h : w'.heap[k]? = w.heap[k]?) : tyOf w' k = tyOf w k := by unfold tyOf; rw [h]
theorem TF.trans {a b c : World} (h : TF B X 𝒯 a b) (k : TF B X 𝒯 b c) : TF B X 𝒯 a c :=
  ⟨k.os.trans h.os, k.tape.trans h.tape, k.output.trans h.output, Nat.le_trans h.size k.size, fun i hi hx ht => by
    have e := h.block i hi hx ht
    rw [k.block i (Nat.lt_of_lt_of_le hi h.size) hx (by rw [tyOf_eq e]; exact ht), e]⟩
theorem TF.mono {X' 𝒯' : List Nat} (h : TF B X 𝒯 w w') (hx : ∀ x ∈ X, x ∈ X') (ht : ∀ x ∈ 𝒯, x ∈ 𝒯') : TF B X' 𝒯' w w' :=
  ⟨h.os, h.tape, h.output, h.size, fun i hi hn hh => h.block i hi (fun hm => hn (hx i hm)) (hh.imp id fun g T hT => g T (ht T hT))⟩
/-- A frame with a greater bound says more. -/
theorem TF.low {B' : Nat} (h : TF B X 𝒯 w w') (hb : B' ≤ B) : TF B' X 𝒯 w w' :=
  ⟨h.os, h.tape, h.output, h.size, fun i hi hn hh => h.block i hi hn (hh.imp (fun g => Nat.lt_of_lt_of_le g hb) id)⟩
theorem TF.fr0 (h : Fr [] w w') : TF B X 𝒯 w w' := ⟨h.os, h.tape, h.output, h.size, fun i hi _ _ => h.block i hi (by simp)⟩
theorem TF.fr {S : List Nat} (h : Fr S w w') (hs : ∀ x ∈ S, x < w.heap.size → x ∈ X ∨ (B ≤ x ∧ ∃ T ∈ 𝒯, tyOf w x = some T)) : TF B X 𝒯 w w' :=
  ⟨h.os, h.tape, h.output, h.size, fun i hi hn hh => h.block i hi fun hm => by
    rcases hs i hm hi with g | ⟨g1, T, g2, g3⟩
    · exact hn g
    · rcases hh with hh | hh
      · omega
      · exact hh T g2 g3⟩
theorem TF.drew (w : World) : TF B X 𝒯 w w.drew := TF.fr0 (Fr.drew w)
theorem HB.ty {r T : Nat} {cs : List Value} (h : HB w r T cs) : tyOf w r = some T := by unfold HB at h; unfold tyOf; rw [h]
theorem HB.tf {r T : Nat} {cs : List Value} (h : HB w r T cs) (hf : TF B X 𝒯 w w') (hx : r ∉ X) (ht : r < B ∨ T ∉ 𝒯) : HB w' r T cs :=
  (hf.block r h.lt hx (ht.imp id fun g T' hT' => by rw [h.ty]; rintro ⟨⟩; exact g hT')).trans h
theorem Own.ty {T sz n : Nat} {v : Value} {xs : List Value} (h : Own w T sz v n xs) {k : Nat} (hk : v.ownBlock = some k) : tyOf w k = some T := by
  rcases h.2 with ⟨rfl, _⟩ | ⟨g, cap, cur, rfl, _, h4, _⟩
  · cases hk
  · have : g = k := by injection hk
    subst this
    unfold tyOf; rw [h4]
theorem Own.tf {T sz n : Nat} {v : Value} {xs : List Value} (h : Own w T sz v n xs) (hf : TF B X 𝒯 w w') (hx : ∀ k, v.ownBlock = some k → k ∉ X) (ht : (∀ k, v.ownBlock = some k → k < B) ∨ T ∉ 𝒯) : Own w' T sz v n xs := by
  have e : ∀ k, v.ownBlock = some k → w'.heap[k]? = w.heap[k]? := fun k hk => hf.block k (h.lt hk) (hx k hk) (ht.imp (fun g => g k hk) fun g T' hT' => by rw [h.ty hk]; rintro ⟨⟩; exact g hT')
  obtain ⟨h1, h2⟩ := h
  refine ⟨h1, ?_⟩
  rcases h2 with h2 | ⟨g, cap, cur, rfl, h3, h4, h5⟩
  · exact .inl h2
  · exact .inr ⟨g, cap, cur, rfl, h3, by rw [e g rfl]; exact h4, h5⟩
theorem Rows.tfB {A : Option Addr} {sz : Nat} {rows : List (List Value)} (h : Rows w A sz rows) (hf : TF B X 𝒯 w w') (hx : ∀ a, A = some a → a.block ∉ X ∧ a.block < B) : Rows w' A sz rows := by
  refine ⟨h.1, fun hne => ?_⟩
  obtain ⟨a, h1, h2, h3⟩ := h.2 hne
  refine ⟨a, h1, Nat.lt_of_lt_of_le h2 hf.size, fun i r hi j v hj => ?_⟩
  have e := hf.block a.block h2 (hx a h1).1 (.inl (hx a h1).2)
  exact (World.cell?_of_block (w := w) (w' := w') (a := a.add (i * sz + j)) (by rw [block_add]; exact e)).trans (h3 i r hi j v hj)
/-- A block that is known whole, read as a slice of the call's own. -/
theorem HB.own {r T : Nat} {cs : List Value} {sz n : Nat} (h : HB w r T cs) (hl : cs.length = n * sz) (hm : n ≤ maxLen) : Own w T sz (.slice (some ⟨r, 0, none⟩) n n) n cs :=
  ⟨hl, .inr ⟨r, n, cs.toArray, rfl, Nat.zero_le _, h, Nat.le_refl _, hm, by simp [hl], by rw [← hl]; simp⟩⟩
theorem TF.own {T sz n : Nat} {v : Value} {xs : List Value} (h : Fr v.ownBlock.toList w w') (hO : Own w T sz v n xs) (hb : ∀ b, v.ownBlock = some b → B ≤ b) (ht : T ∈ 𝒯) : TF B X 𝒯 w w' :=
  TF.fr h fun x hx _ => .inr ⟨hb x (toList_some.1 hx), T, ht, hO.ty (toList_some.1 hx)⟩
theorem TF.blk {r : Nat} (h : Fr [r] w w') (hr : r ∈ X) : TF B X 𝒯 w w' := TF.fr h fun x hx _ => .inl (by simp at hx; exact hx ▸ hr)
theorem TF.fresh {S : List Nat} (h : Fr S w w') (hs : ∀ x ∈ S, w.heap.size ≤ x) : TF B X 𝒯 w w' := TF.fr h fun x hx hl => absurd hl (by have := hs x hx; omega)
theorem Keep.nil : Keep [] w w' := fun r hr => absurd hr (by simp)
theorem Keep.cons {r : Nat} {L : List Nat} (h : r < w.heap.size → w'.heap[r]? = w.heap[r]?) (k : Keep L w w') : Keep (r :: L) w w' := by
  intro x hx hl
  rcases List.mem_cons.1 hx with rfl | hx
  · exact h hl
  · exact k x hx hl
theorem Keep.hb {r T : Nat} {cs : List Value} {L : List Nat} (h : HB w r T cs) (hf : TF B X 𝒯 w w') (hx : r ∉ X) (ht : T ∉ 𝒯) (k : Keep L w w') : Keep (r :: L) w w' :=
  Keep.cons (fun _ => (h.tf hf hx (.inr ht)).trans h.symm) k
end
end Go.Fw
