/- The walking layer, part J: how the events are met. No condition. -/
import Derived.Test.YtmjalmocaiokhaaGreatFwI
set_option linter.unusedVariables false
set_option linter.unusedSimpArgs false
namespace Go.Fw
open Go

/-- What a call does: it returns v, and the world behind it; but for the blocks S all that stood stands. -/
structure Ret (P : Program) (f : Nat) (args : List Value) (w : World) (S : List Nat) (R : Value → World → Prop) : Prop where
  en : Enters P f
  h : Calls P f args.toArray w fun e w' => ∃ v, e = .returned v ∧ Fr S w w' ∧ R v w'

theorem Ret.mono {P : Program} {f : Nat} {args : List Value} {w : World} {S : List Nat} {R R' : Value → World → Prop} (h : Ret P f args w S R) (hr : ∀ v w', Fr S w w' → R v w' → R' v w') : Ret P f args w S R' :=
  ⟨h.en, h.h.mono fun _ _ ⟨v, e, hf, hv⟩ => ⟨v, e, hf, hr v _ hf hv⟩⟩

noncomputable def bodyOf (fn : Func) : Code := fn.body.getD .skip

theorem fn_go {C : Ctx} {P : Program} (hC : COk C P) (hm : P.follows .mixedOrders = true) {f : Nat} {fn : Func} (hf : P.funcs[f]? = some fn) (hb : fn.body.isSome = true) (hn : fn.ntmps = C.n) (hen : Enters P f)
    {args : List Value} (hl : args.length ≤ C.n) {w : World} {S : List Nat} {R : Value → World → Prop}
    (h : SW C P (bodyOf fn) ⟨args0 args, [], 0⟩ w (endX C P fn.results.toList fun v w' => Fr S w w' ∧ R v w')) : Ret P f args w S R := by
  obtain ⟨c, hc⟩ := Option.isSome_iff_exists.1 hb
  have hbc : bodyOf fn = c := by simp [bodyOf, hc]
  rw [hbc] at h
  exact ⟨hen, fn_ok hC hm hf hc hn hl h⟩

section
variable {P : Program} {w : World} {L : List Nat}

theorem EvCall.ret {f : Nat} {args : List Value} {S : List Nat} {R : Value → World → Prop} {K : Value → World → Prop} (hc : Ret P f args w S R) (hL : ∀ r ∈ L, r ∉ S)
    (k : ∀ v w', Fr S w w' → R v w' → K v w') : EvCall P f args.toArray w L K :=
  ⟨hc.en, hc.h.mono fun _ w' ⟨v, e, hf, hv⟩ => ⟨v, e, Keep.of_fr hf hL, k v w' hf hv⟩⟩
/-- A callee that leaves all that stood. -/
theorem EvCall.ret0 {f : Nat} {args : List Value} {R : Value → World → Prop} {K : Value → World → Prop} (hc : Ret P f args w [] R)
    (k : ∀ v w', Fr [] w w' → R v w' → K v w') : EvCall P f args.toArray w L K := EvCall.ret hc (by simp) k

theorem EvSplit.tt {K : Bool → Prop} (h : K true) : EvSplit true K := ⟨h⟩
theorem EvSplit.ff {K : Bool → Prop} (h : K false) : EvSplit false K := ⟨h⟩
theorem EvSplit.dec {p : Prop} [Decidable p] {K : Bool → Prop} (h1 : p → K true) (h2 : ¬ p → K false) : EvSplit (decide p) K := by
  by_cases h : p
  · exact ⟨by rw [decide_eq_true h]; exact h1 h⟩
  · exact ⟨by rw [decide_eq_false h]; exact h2 h⟩
theorem EvSplit.lt {a b : Int} {K : Bool → Prop} (h1 : a < b → K true) (h2 : b ≤ a → K false) : EvSplit (decide (a < b)) K := .dec h1 fun h => h2 (by omega)
theorem EvSplit.le {a b : Int} {K : Bool → Prop} (h1 : a ≤ b → K true) (h2 : b < a → K false) : EvSplit (decide (a ≤ b)) K := .dec h1 fun h => h2 (by omega)
theorem EvSplit.gt {a b : Int} {K : Bool → Prop} (h1 : b < a → K true) (h2 : a ≤ b → K false) : EvSplit (decide (a > b)) K := .dec h1 fun h => h2 (by omega)
theorem EvSplit.ge {a b : Int} {K : Bool → Prop} (h1 : b ≤ a → K true) (h2 : a < b → K false) : EvSplit (decide (a ≥ b)) K := .dec h1 fun h => h2 (by omega)
theorem EvSplit.eq {a b : Int} {K : Bool → Prop} (h1 : a = b → K true) (h2 : a ≠ b → K false) : EvSplit (a == b) K := by
  by_cases h : a = b
  · exact ⟨by rw [beq_iff_eq.2 h]; exact h1 h⟩
  · exact ⟨by rw [beq_eq_false_iff_ne.2 h]; exact h2 h⟩
theorem EvSplit.ne {a b : Int} {K : Bool → Prop} (h1 : a ≠ b → K true) (h2 : a = b → K false) : EvSplit (a != b) K := by
  by_cases h : a = b
  · exact ⟨by rw [show (a != b) = false by simp [h]]; exact h2 h⟩
  · exact ⟨by rw [show (a != b) = true by simp [h]]; exact h1 h⟩
theorem EvSplit.any {b : Bool} {K : Bool → Prop} (h1 : b = true → K true) (h2 : b = false → K false) : EvSplit b K := by
  cases b
  · exact ⟨h2 rfl⟩
  · exact ⟨h1 rfl⟩
theorem EvSplit.not {b : Bool} {K : Bool → Prop} (h1 : b = false → K true) (h2 : b = true → K false) : EvSplit (!b) K := by
  cases b
  · exact ⟨h1 rfl⟩
  · exact ⟨h2 rfl⟩

variable {A B : (Exit → St → World → Prop) → Prop} {K : Exit → St → World → Prop}
theorem EvIf.tt (h : A K) : EvIf true A B K := ⟨K, fun _ => h, (fun h => by cases h), fun _ _ _ h => .inl h⟩
theorem EvIf.ff (h : B K) : EvIf false A B K := ⟨K, (fun h => by cases h), fun _ => h, fun _ _ _ h => .inl h⟩
theorem EvIf.any {b : Bool} (h1 : b = true → A K) (h2 : b = false → B K) : EvIf b A B K := ⟨K, h1, h2, fun _ _ _ h => .inl h⟩
theorem EvIf.not {b : Bool} (h1 : b = false → A K) (h2 : b = true → B K) : EvIf (!b) A B K := .any (fun h => h1 (by simpa using h)) fun h => h2 (by simpa using h)
theorem EvIf.dec {p : Prop} [Decidable p] (h1 : p → A K) (h2 : ¬ p → B K) : EvIf (decide p) A B K := .any (fun h => h1 (of_decide_eq_true h)) fun h => h2 (of_decide_eq_false h)
theorem EvIf.lt {a b : Int} (h1 : a < b → A K) (h2 : b ≤ a → B K) : EvIf (decide (a < b)) A B K := .dec h1 fun h => h2 (by omega)
theorem EvIf.le {a b : Int} (h1 : a ≤ b → A K) (h2 : b < a → B K) : EvIf (decide (a ≤ b)) A B K := .dec h1 fun h => h2 (by omega)
theorem EvIf.gt {a b : Int} (h1 : b < a → A K) (h2 : a ≤ b → B K) : EvIf (decide (a > b)) A B K := .dec h1 fun h => h2 (by omega)
theorem EvIf.ge {a b : Int} (h1 : b ≤ a → A K) (h2 : a < b → B K) : EvIf (decide (a ≥ b)) A B K := .dec h1 fun h => h2 (by omega)
theorem EvIf.eq {a b : Int} (h1 : a = b → A K) (h2 : a ≠ b → B K) : EvIf (a == b) A B K := .any (fun h => h1 (by simpa using h)) fun h => h2 (by simpa using h)
theorem EvIf.ne {a b : Int} (h1 : a ≠ b → A K) (h2 : a = b → B K) : EvIf (a != b) A B K := .any (fun h => h1 (by simpa using h)) fun h => h2 (by simpa using h)
/-- Both ways meet again in J. -/
theorem EvIf.join {b : Bool} (J : Exit → St → World → Prop) (h1 : b = true → A J) (h2 : b = false → B J) (h3 : ∀ e s w, J e s w → K e s w) : EvIf b A B K := ⟨J, h1, h2, fun e s w h => .inl (h3 e s w h)⟩

/-- What holds where ways meet again, by states x: the exit, what is known of the frame, of the world. -/
structure Meet (K : Exit → St → World → Prop) (X : Type) (ex : Exit) (env : X → St) (I : X → World → Prop) (e : Exit) (s : St) (w : World) : Prop where
  h : K e s w ∨ (e = ex ∧ ∃ x, SubS (env x) s ∧ I x w)
theorem Meet.at_ {X : Type} {ex : Exit} {env : X → St} {I : X → World → Prop} {s : St} {w : World} (x : X) (h1 : SubS (env x) s) (h2 : I x w) : Meet K X ex env I ex s w := ⟨.inr ⟨rfl, x, h1, h2⟩⟩
theorem Meet.go {X : Type} {ex : Exit} {env : X → St} {I : X → World → Prop} {e : Exit} {s : St} {w : World} (h : K e s w) : Meet K X ex env I e s w := ⟨.inl h⟩
theorem Meet.out {X : Type} {ex : Exit} {env : X → St} {I : X → World → Prop} (h : ∀ x w, I x w → K ex (env x) w) : ∀ e s w, Meet K X ex env I e s w → K e s w ∨ ∃ s', SubS s' s ∧ K e s' w := by
  rintro e s w ⟨h1 | ⟨rfl, x, h1, h2⟩⟩
  · exact .inl h1
  · exact .inr ⟨_, h1, h x w h2⟩
/-- Both ways of a test meet again. -/
theorem EvIf.meet {b : Bool} (X : Type) (env : X → St) (I : X → World → Prop) (h1 : b = true → A (Meet K X .normal env I)) (h2 : b = false → B (Meet K X .normal env I)) (h3 : ∀ x w, I x w → K .normal (env x) w) : EvIf b A B K :=
  ⟨_, h1, h2, Meet.out h3⟩

/-! ### Numbers -/
theorem wrap_in {k : IntKind} {n : Int} (h1 : k.min ≤ n) (h2 : n ≤ k.max) : k.wrap n = n := by
  cases k <;> simp [IntKind.min, IntKind.max, IntKind.signed, IntKind.bits] at h1 h2 <;> simp [IntKind.wrap, IntKind.signed, IntKind.bits] <;> first | omega | (split <;> omega)
theorem EvAr.i64 {n : Int} {K : Int → Prop} (h1 : -9223372036854775808 ≤ n ∧ n ≤ 9223372036854775807) (h : K n) : EvAr .i64 n K :=
  ⟨by rw [wrap_in (k := .i64) (by simpa [IntKind.min, IntKind.signed, IntKind.bits] using h1.1) (by simpa [IntKind.max, IntKind.signed, IntKind.bits] using h1.2)]; exact h⟩
theorem EvAr.u8 {n : Int} {K : Int → Prop} (h1 : 0 ≤ n ∧ n ≤ 255) (h : K n) : EvAr .u8 n K :=
  ⟨by rw [wrap_in (k := .u8) (by simpa [IntKind.min, IntKind.signed, IntKind.bits] using h1.1) (by simpa [IntKind.max, IntKind.signed, IntKind.bits] using h1.2)]; exact h⟩
theorem EvAr.i8 {n : Int} {K : Int → Prop} (h1 : -128 ≤ n ∧ n ≤ 127) (h : K n) : EvAr .i8 n K :=
  ⟨by rw [wrap_in (k := .i8) (by simpa [IntKind.min, IntKind.signed, IntKind.bits] using h1.1) (by simpa [IntKind.max, IntKind.signed, IntKind.bits] using h1.2)]; exact h⟩
theorem EvAr.i32 {n : Int} {K : Int → Prop} (h1 : -2147483648 ≤ n ∧ n ≤ 2147483647) (h : K n) : EvAr .i32 n K :=
  ⟨by rw [wrap_in (k := .i32) (by simpa [IntKind.min, IntKind.signed, IntKind.bits] using h1.1) (by simpa [IntKind.max, IntKind.signed, IntKind.bits] using h1.2)]; exact h⟩
theorem EvAr.u64 {n : Int} {K : Int → Prop} (h1 : 0 ≤ n ∧ n ≤ 18446744073709551615) (h : K n) : EvAr .u64 n K :=
  ⟨by rw [wrap_in (k := .u64) (by simpa [IntKind.min, IntKind.signed, IntKind.bits] using h1.1) (by simpa [IntKind.max, IntKind.signed, IntKind.bits] using h1.2)]; exact h⟩
theorem EvIdx.go {A : Option Addr} {n : Nat} {i : Int} {sz : Nat} {K : Addr → Prop} {a : Addr} (ha : A = some a) (h0 : 0 ≤ i) (h1 : i < n) (h : K (a.add (i.toNat * sz))) : EvIdx A n i sz K := ⟨a, ha, h0, h1, h⟩
theorem EvIdx.nat {A : Option Addr} {n : Nat} {i sz : Nat} {K : Addr → Prop} {a : Addr} (ha : A = some a) (h1 : i < n) (h : K (a.add (i * sz))) : EvIdx A n (i : Int) sz K := ⟨a, ha, by omega, by omega, by simpa using h⟩
theorem EvLd.go {a : Addr} {K : Value → Prop} {v : Value} (h : w.cell? a = some v) (k : K v) : EvLd w a K := ⟨v, h, k⟩
theorem EvNew.go {o : Obj} {K : Nat → World → Prop} (k : ∀ r w', r = w.heap.size → w'.heap.size = r + 1 → Fr [] w w' → w'.heap[r]? = some o → K r w') : EvNew w o K :=
  ⟨k _ _ rfl (by show (w.heap.push o).size = _; simp) (Fr.alloc w o) (heap_alloc_same w o)⟩
theorem EvSt.go {a : Addr} {v u : Value} {K : World → Prop} (h1 : v.oneCell' = true) (h2 : w.cell? a = some u) (h3 : w.frozen? a = false) (h4 : ∀ r ∈ L, r ≠ a.block) (k : Fr [a.block] w (w.setCell a v) → K (w.setCell a v)) : EvSt w a v L K :=
  ⟨h1, ⟨u, h2⟩, h3, h4, k (Fr.setCell w a v)⟩
theorem EvStr.go {s : ByteArray} {i : Int} {K : Int → Prop} {b : UInt8} (h0 : 0 ≤ i) (h1 : s[i.toNat]? = some b) (h : K b.toNat) : EvStr s i K := ⟨h0, b, h1, h⟩

/-- A loop, by states: what is known of the frame at a round's head, of the world, and a number that falls. -/
theorem EvLoop.go {run : St → World → (Exit → St → World → Prop) → Prop} {st : St} (ι : Type) (env : ι → St) (I : ι → World → Prop) (μ : ι → Nat) (i₀ : ι)
    (h1 : SubS (env i₀) st) (h2 : I i₀ w)
    (h3 : ∀ i w, I i w → run (env i) w fun e s w' => Exit.casesOn (motive := fun _ => Prop) e (∃ i', SubS (env i') s ∧ I i' w' ∧ μ i' < μ i) (fun id => K (.exit id) s w') (fun l => K (.goto l) s w') (K .ret s w') (fun c => K (.panic c) s w') (K .outgrown s w')) :
    EvLoop run st w K := ⟨K, ι, env, I, μ, i₀, h1, h2, h3, fun _ _ _ h => .inl h⟩

/-- A loop whose exits 'ex' meet again. -/
theorem EvLoop.meet {run : St → World → (Exit → St → World → Prop) → Prop} {st : St} {K : Exit → St → World → Prop} (ι : Type) (env : ι → St) (I : ι → World → Prop) (μ : ι → Nat) (i₀ : ι) (X : Type) (ex : Exit) (envX : X → St) (IX : X → World → Prop)
    (h1 : SubS (env i₀) st) (h2 : I i₀ w)
    (h3 : ∀ i w, I i w → run (env i) w fun e s w' => Exit.casesOn (motive := fun _ => Prop) e (∃ i', SubS (env i') s ∧ I i' w' ∧ μ i' < μ i) (fun id => Meet K X ex envX IX (.exit id) s w') (fun l => Meet K X ex envX IX (.goto l) s w') (Meet K X ex envX IX .ret s w') (fun c => Meet K X ex envX IX (.panic c) s w') (Meet K X ex envX IX .outgrown s w'))
    (h4 : ∀ x w, IX x w → K ex (envX x) w) :
    EvLoop run st w K := ⟨_, ι, env, I, μ, i₀, h1, h2, h3, Meet.out h4⟩

theorem EvDraw.go {ops : Array Oper} {run : (World → Prop) → Option Nat → Plan → World → (St → World → Prop) → Prop} {K : St → World → Prop} (S : World → Prop) (l : Option Nat) (p : Plan) (h1 : planOk0 ops l p = true) (h2 : S w.drew)
    (h3 : run S l p w.drew K) : EvDraw ops w run K := ⟨S, l, p, K, h1, h2, h3, fun _ _ h => .inl h⟩
/-- A region whose orders meet again. -/
theorem EvDraw.meet {ops : Array Oper} {run : (World → Prop) → Option Nat → Plan → World → (St → World → Prop) → Prop} {K : St → World → Prop} (X : Type) (env : X → St) (I : X → World → Prop) (S : World → Prop) (l : Option Nat) (p : Plan)
    (h1 : planOk0 ops l p = true) (h2 : S w.drew) (h3 : run S l p w.drew fun s w => ∃ x, SubS (env x) s ∧ I x w) (h4 : ∀ x w, I x w → K (env x) w) : EvDraw ops w run K :=
  ⟨S, l, p, _, h1, h2, h3, fun _ w ⟨x, a, b⟩ => .inr ⟨_, a, h4 x w b⟩⟩
end
end Go.Fw
