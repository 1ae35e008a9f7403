/- The walking layer, part I: code, loops, functions. No condition. -/
import Derived.Test.YtmjalmocaiokhaaGreatFwH
set_option linter.unusedVariables false
set_option linter.unusedSimpArgs false
namespace Go.Fw
open Go

noncomputable def bpLt (s : SV) (nb : Nat) (K : Prop) : Prop := SV.casesOn s (fun _ => K) (fun i _ _ => bif Nat.ble (Nat.succ i) nb then K else False) (fun _ => K)

/-- What s' knows s knows. -/
noncomputable def subR (l : List (Nat × SV)) (ρ : List (Nat × SV)) (nb : Nat) : Prop :=
  List.rec (motive := fun _ => Prop) True (fun p _ ih => Prod.casesOn p fun t s => (lk ρ t fun u => u = s) ∧ bpLt s nb ih) l

noncomputable def subB (l : List Box) (bx : List Box) (nb : Nat) (seen : List Nat) : Prop :=
  (List.rec (motive := fun _ => List Nat → Prop) (fun _ => True) (fun b _ ih seen => Box.casesOn b fun i r T cs => (⟨i, r, T, cs⟩ : Box) ∈ bx ∧ (bif Nat.ble (Nat.succ i) nb then (bif nmem i seen then False else ih (i :: seen)) else False)) l : List Nat → Prop) seen

structure SubS (s' s : St) : Prop where
  r : subR s'.ρ s.ρ s'.nb
  b : subB s'.bx s.bx s'.nb []

structure EvIf (b : Bool) (A B : (Exit → St → World → Prop) → Prop) (K : Exit → St → World → Prop) : Prop where
  h : ∃ J : Exit → St → World → Prop, (b = true → A J) ∧ (b = false → B J) ∧ ∀ e s w, J e s w → K e s w ∨ ∃ s', SubS s' s ∧ K e s' w

structure EvDraw (ops : Array Oper) (w : World) (run : (World → Prop) → Option Nat → Plan → World → (St → World → Prop) → Prop) (K : St → World → Prop) : Prop where
  h : ∃ (S : World → Prop) (l : Option Nat) (p : Plan) (J : St → World → Prop), planOk0 ops l p = true ∧ S w.drew ∧ run S l p w.drew J ∧ ∀ s w, J s w → K s w ∨ ∃ s', SubS s' s ∧ K s' w

structure EvLoop (run : St → World → (Exit → St → World → Prop) → Prop) (st : St) (w : World) (K : Exit → St → World → Prop) : Prop where
  h : ∃ (J : Exit → St → World → Prop) (ι : Type) (env : ι → St) (I : ι → World → Prop) (μ : ι → Nat) (i₀ : ι), SubS (env i₀) st ∧ I i₀ w ∧
    (∀ i w, I i w → run (env i) w fun e s w' => Exit.casesOn (motive := fun _ => Prop) e (∃ i', SubS (env i') s ∧ I i' w' ∧ μ i' < μ i) (fun id => J (.exit id) s w') (fun l => J (.goto l) s w') (J .ret s w') (fun c => J (.panic c) s w') (J .outgrown s w')) ∧
    ∀ e s w, J e s w → K e s w ∨ ∃ s', SubS s' s ∧ K e s' w

noncomputable def SW (C : Ctx) (P : Program) (c : Code) : St → World → (Exit → St → World → Prop) → Prop :=
  Code.rec (motive := fun _ => St → World → (Exit → St → World → Prop) → Prop)
    (fun st w K => K .normal st w)
    (fun _ ops draw st w K => St.casesOn st fun ρ bx nb =>
      bif draw then EvDraw ops w (fun S l p w J => planX C P ops.toList S l p ρ bx nb w J) (fun s w => K .normal s w)
      else opsX C P ops.toList ops.toList ρ bx nb w fun s w => K .normal s w)
    (fun _ _ A B st w K => A st w fun e s w => Exit.casesOn (motive := fun _ => Prop) e (B s w K) (fun id => K (.exit id) s w) (fun l => K (.goto l) s w) (K .ret s w) (fun c => K (.panic c) s w) (K .outgrown s w))
    (fun c _ _ A B st w K => St.casesOn st fun ρ bx nb => opd ρ c fun v => match v with | .kb t => bif t then A ⟨ρ, bx, nb⟩ w K else B ⟨ρ, bx, nb⟩ w K | .v (.bool t) => EvIf t (A ⟨ρ, bx, nb⟩ w) (B ⟨ρ, bx, nb⟩ w) K | _ => False)
    (fun id _ A st w K => A st w fun e s w => Exit.casesOn (motive := fun _ => Prop) e (K .normal s w) (fun id' => bif Nat.beq id' id then K .normal s w else K (.exit id') s w) (fun l => K (.goto l) s w) (K .ret s w) (fun c => K (.panic c) s w) (K .outgrown s w))
    (fun _ A st w K => EvLoop A st w K)
    (fun _ _ _ _ _ _ st w K => False)
    (fun id st w K => K (.exit id) st w)
    (fun _ A st w K => False)
    (fun _ st w K => K .normal st w)
    (fun _ st w K => False)
    (fun st w K => K .ret st w)
    (fun _ st w K => False) c

section
variable {C : Ctx} {P : Program}

theorem bpLt_ok {s : SV} {nb : Nat} {K : Prop} (h : bpLt s nb K) : (∀ i r o, s = .bp i r o → i < nb) ∧ K := by
  cases s with
  | v x => exact ⟨(by intro i r o e; cases e), h⟩
  | kb x => exact ⟨(by intro i r o e; cases e), h⟩
  | bp i r o =>
    unfold bpLt at h
    dsimp only at h
    cases hb : Nat.ble (Nat.succ i) nb
    · simp only [hb, cond_false] at h
    · simp only [hb, cond_true] at h
      refine ⟨?_, h⟩
      intro i' r' o' e
      injection e with e1
      subst e1
      exact Nat.le_of_ble_eq_true hb

theorem subR_ok {ρ : List (Nat × SV)} {nb : Nat} : ∀ {l : List (Nat × SV)}, subR l ρ nb → ∀ t s, look l t = some s → look ρ t = some s ∧ ∀ i r o, s = .bp i r o → i < nb := by
  intro l
  induction l with
  | nil =>
    intro _ t s h
    exact absurd h (by show ¬ (none = some s); simp)
  | cons p l ih =>
    obtain ⟨t', s'⟩ := p
    intro h t s hl
    have h' : (lk ρ t' fun u => u = s') ∧ bpLt s' nb (subR l ρ nb) := h
    obtain ⟨h1, h2⟩ := h'
    obtain ⟨h3, h4⟩ := bpLt_ok h2
    rw [look_cons] at hl
    cases hb : Nat.beq t' t
    · simp only [hb, cond_false] at hl
      exact ih h4 t s hl
    · simp only [hb, cond_true] at hl
      injection hl with hl
      subst hl
      obtain rfl := Nat.eq_of_beq_eq_true hb
      obtain ⟨u, h5, rfl⟩ := lk_iff h1
      exact ⟨h5, h3⟩

theorem nmem_iff {t : Nat} : ∀ {l : List Nat}, nmem t l = true ↔ t ∈ l := by
  intro l
  induction l with
  | nil => exact ⟨(fun h => absurd h (by show ¬ (false = true); simp)), (fun h => absurd h (by simp))⟩
  | cons x l ih =>
    have e : nmem t (x :: l) = bif Nat.beq x t then true else nmem t l := rfl
    rw [e]
    cases hb : Nat.beq x t
    · simp only [cond_false, List.mem_cons, ih]
      constructor
      · exact .inr
      · rintro (h | h)
        · subst h; simp at hb
        · exact h
    · simp only [cond_true, List.mem_cons, true_iff]
      exact .inl (Nat.eq_of_beq_eq_true hb).symm

theorem subB_ok {bx : List Box} {nb : Nat} : ∀ {l : List Box} {seen : List Nat}, subB l bx nb seen → (∀ b ∈ l, b ∈ bx ∧ b.i < nb ∧ b.i ∉ seen) ∧ (l.map (·.i)).Nodup := by
  intro l
  induction l with
  | nil => intro seen _; exact ⟨by simp, by simp⟩
  | cons b l ih =>
    obtain ⟨i, r, T, cs⟩ := b
    intro seen h
    have h' : (⟨i, r, T, cs⟩ : Box) ∈ bx ∧ (bif Nat.ble (Nat.succ i) nb then (bif nmem i seen then False else subB l bx nb (i :: seen)) else False) := h
    obtain ⟨h1, h2⟩ := h'
    cases hb : Nat.ble (Nat.succ i) nb
    · simp only [hb, cond_false] at h2
    · simp only [hb, cond_true] at h2
      cases hm : nmem i seen
      · simp only [hm, cond_false] at h2
        obtain ⟨h3, h4⟩ := ih h2
        have hns : i ∉ seen := fun he => by rw [nmem_iff.2 he] at hm; cases hm
        refine ⟨fun b hb' => ?_, ?_⟩
        · rcases List.mem_cons.1 hb' with rfl | hb'
          · exact ⟨h1, Nat.le_of_ble_eq_true hb, hns⟩
          · obtain ⟨g1, g2, g3⟩ := h3 b hb'
            exact ⟨g1, g2, fun he => g3 (List.mem_cons_of_mem _ he)⟩
        · rw [List.map_cons, List.nodup_cons]
          refine ⟨fun he => ?_, h4⟩
          obtain ⟨b, hb', he⟩ := List.mem_map.1 he
          exact (h3 b hb').2.2 (by rw [he]; exact List.mem_cons_self)
      · simp only [hm, cond_true] at h2

theorem nodup_map_inj {α β : Type} (f : α → β) : ∀ {l : List α}, (l.map f).Nodup → ∀ a ∈ l, ∀ b ∈ l, f a = f b → a = b
  | [], _, a, ha, _, _, _ => by cases ha
  | x :: l, h, a, ha, b, hb, e => by
    rw [List.map_cons, List.nodup_cons] at h
    rcases List.mem_cons.1 ha with h1 | h1 <;> rcases List.mem_cons.1 hb with h2 | h2
    · rw [h1, h2]
    · exact absurd (List.mem_map.2 ⟨b, h2, by rw [← e, h1]⟩) h.1
    · exact absurd (List.mem_map.2 ⟨a, h1, by rw [e, h2]⟩) h.1
    · exact nodup_map_inj f h.2 a h1 b h2 e

theorem nodup_map_of_inj {α β : Type} (f : α → β) : ∀ {l : List α}, l.Nodup → (∀ a ∈ l, ∀ b ∈ l, f a = f b → a = b) → (l.map f).Nodup
  | [], _, _ => by simp
  | x :: l, h, hi => by
    rw [List.nodup_cons] at h
    rw [List.map_cons, List.nodup_cons]
    refine ⟨fun hm => ?_, nodup_map_of_inj f h.2 fun a ha b hb => hi a (List.mem_cons_of_mem _ ha) b (List.mem_cons_of_mem _ hb)⟩
    obtain ⟨y, hy, e⟩ := List.mem_map.1 hm
    rw [hi y (List.mem_cons_of_mem _ hy) x List.mem_cons_self e] at hy
    exact h.1 hy

theorem nodup_of_map {α β : Type} (f : α → β) {l : List α} (h : (l.map f).Nodup) : l.Nodup := by
  induction l with
  | nil => simp
  | cons x l ih =>
    rw [List.map_cons, List.nodup_cons] at h
    rw [List.nodup_cons]
    exact ⟨fun hx => h.1 (List.mem_map.2 ⟨x, hx, rfl⟩), ih h.2⟩

theorem Rel.sub {s' s : St} {a : Act} {w : World} (h : Rel C s.ρ s.bx s.nb a w) (hs : SubS s' s) : Rel C s'.ρ s'.bx s'.nb a w := by
  obtain ⟨h1, h2⟩ := subB_ok hs.b
  refine ⟨h.sz, h.df, fun t u hu => ?_, fun b hb => h.B b (h1 b hb).1, ⟨fun b hb => (h1 b hb).2.1, ?_⟩⟩
  · obtain ⟨h3, h4⟩ := subR_ok hs.r t u hu
    obtain ⟨h5, h6⟩ := h.A t u h3
    exact ⟨h5, fun i r o e => ⟨h4 i r o e, fun b hb hi => (h6 i r o e).2 b (h1 b hb).1 hi⟩⟩
  · refine nodup_map_of_inj _ (nodup_of_map _ h2) fun x hx y hy e => ?_
    exact nodup_map_inj _ h.N.nd x (h1 x hx).1 y (h1 y hy).1 e

theorem Post.mono {K K' : Exit → St → World → Prop} (h : ∀ e s w, K e s w → K' e s w ∨ ∃ s', SubS s' s ∧ K' e s' w) : ∀ e a w, Post C K e a w → Post C K' e a w :=
  fun e a w ⟨s, h1, h2⟩ => by
    rcases h e s w h1 with h3 | ⟨s', h3, h4⟩
    · exact ⟨s, h3, h2⟩
    · exact ⟨s', h4, h2.sub h3⟩

theorem SW_ok (hC : COk C P) (hm : P.follows .mixedOrders = true) : ∀ (c : Code) (s : St) (a : Act) (w : World) (K : Exit → St → World → Prop),
    SW C P c s w K → Rel C s.ρ s.bx s.nb a w → c.wp P (Post C K) a w := by
  intro c
  induction c with
  | skip => intro s a w K h hR; exact wp_skip ⟨s, h, hR⟩
  | region id ops draw =>
    intro s a w K h hR
    obtain ⟨ρ, bx, nb⟩ := s
    have h' : bif draw then EvDraw ops w (fun S l p w J => planX C P ops.toList S l p ρ bx nb w J) (fun s w => K .normal s w)
      else opsX C P ops.toList ops.toList ρ bx nb w (fun s w => K .normal s w) := h
    cases draw
    · exact wp_region_list (opsX_ok hC rfl ops.toList ρ bx nb a w h' hR)
    · obtain ⟨S, l, p, J, g1, g2, g3, g4⟩ := (h' : EvDraw ops w (fun S l p w J => planX C P ops.toList S l p ρ bx nb w J) (fun s w => K .normal s w))
      refine Code.wp_mono (fun e a w hq => ?_) (draw_ok hC hm g1 g2 g3 hR)
      cases e with
      | normal =>
        obtain ⟨s, h1, h2⟩ := hq
        rcases g4 s w h1 with h3 | ⟨s', h3, h4⟩
        · exact ⟨s, h3, h2⟩
        · exact ⟨s', h4, h2.sub h3⟩
      | _ => exact hq.elim
  | seq x y ihx ihy =>
    intro s a w K h hR
    refine wp_seq (Code.wp_mono (fun e a w hq => ?_) (ihx s a w _ h hR))
    obtain ⟨s', h1, h2⟩ := hq
    cases e with
    | normal => exact ihy s' a w K h1 h2
    | exit id => exact ⟨s', h1, h2⟩
    | goto l => exact ⟨s', h1, h2⟩
    | ret => exact ⟨s', h1, h2⟩
    | panic ch => exact ⟨s', h1, h2⟩
    | outgrown => exact ⟨s', h1, h2⟩
  | cond c x y ihx ihy =>
    intro s a w K h hR
    obtain ⟨ρ, bx, nb⟩ := s
    have h' : opd ρ c (fun v => match v with | .kb t => bif t then SW C P x ⟨ρ, bx, nb⟩ w K else SW C P y ⟨ρ, bx, nb⟩ w K | .v (.bool t) => EvIf t (SW C P x ⟨ρ, bx, nb⟩ w) (SW C P y ⟨ρ, bx, nb⟩ w) K | _ => False) := h
    obtain ⟨v, h1, hsv, h2⟩ := opd_ok hR.A h'
    clear hsv
    split at h2
    · rename_i t
      refine wp_cond_split (t := t) h1 (fun ht => ?_) (fun ht => ?_)
      · subst ht; exact ihx _ a w K h2 hR
      · subst ht; exact ihy _ a w K h2 hR
    · rename_i t
      obtain ⟨J, g1, g2, g3⟩ := h2
      refine Code.wp_mono (Post.mono g3) ?_
      refine wp_cond_split (t := t) h1 (fun ht => ihx _ a w J (g1 ht) hR) (fun ht => ihy _ a w J (g2 ht) hR)
    · exact h2.elim
  | block id x ih =>
    intro s a w K h hR
    refine wp_block (Code.wp_mono (fun e a w hq => ?_) (ih s a w _ h hR))
    obtain ⟨s', h1, h2⟩ := hq
    cases e with
    | normal => exact ⟨s', h1, h2⟩
    | exit id' =>
      simp only [Exit.inBlock]
      dsimp only at h1
      by_cases he : id' = id
      · subst he
        simp only [Nat.beq_refl, cond_true] at h1
        rw [if_pos rfl]
        exact ⟨s', h1, h2⟩
      · have hb : Nat.beq id' id = false := by
          cases hb : Nat.beq id' id
          · rfl
          · exact absurd (Nat.eq_of_beq_eq_true hb) he
        simp only [hb, cond_false] at h1
        rw [if_neg he]
        exact ⟨s', h1, h2⟩
    | goto l => exact ⟨s', h1, h2⟩
    | ret => exact ⟨s', h1, h2⟩
    | panic ch => exact ⟨s', h1, h2⟩
    | outgrown => exact ⟨s', h1, h2⟩
  | loop x ih =>
    intro s a w K h hR
    obtain ⟨J, ι, env, I, μ, i₀, hsub, hI, hround, hJ⟩ := EvLoop.h h
    refine Code.wp_mono (Post.mono hJ) ?_
    have key : ∀ n (i : ι), μ i = n → ∀ a w, I i w → Rel C (env i).ρ (env i).bx (env i).nb a w → ∀ (b : Frame) (k : List Item) (cs : List Frame),
        ∃ e a' w', Post C J e a' w' ∧ Arrives P (lone (b.at a (.code x :: .inLoop x :: k)) cs w) b k cs e a' w' := by
      intro n
      induction n using Nat.strongRecOn with
      | _ n ihn =>
        intro i hi a w hI hR b k cs
        obtain ⟨e, a₁, w₁, hq, harr⟩ := ih (env i) a w _ (hround i w hI) hR b (.inLoop x :: k) cs
        obtain ⟨s', h1, h2⟩ := hq
        cases e with
        | normal =>
          obtain ⟨i', g1, g2, g3⟩ := h1
          obtain ⟨e₂, a₂, w₂, hq₂, harr₂⟩ := ihn (μ i') (hi ▸ g3) i' rfl a₁ w₁ g2 (h2.sub g1) b k cs
          exact ⟨e₂, a₂, w₂, hq₂, .of_steps (Steps.trans harr (.one step_inLoop)) harr₂⟩
        | exit id => exact ⟨_, a₁, w₁, ⟨s', h1, h2⟩, .pass (x := .inLoop x) rfl (fun _ _ => .inl (by simp)) harr⟩
        | goto l => exact ⟨_, a₁, w₁, ⟨s', h1, h2⟩, .pass (x := .inLoop x) rfl (fun _ _ => .inl (by simp)) harr⟩
        | ret => exact ⟨_, a₁, w₁, ⟨s', h1, h2⟩, .pass (x := .inLoop x) rfl (fun _ _ => .inl (by simp)) harr⟩
        | panic ch => exact ⟨_, a₁, w₁, ⟨s', h1, h2⟩, .pass (x := .inLoop x) rfl (fun _ _ => .inl (by simp)) harr⟩
        | outgrown => exact ⟨_, a₁, w₁, ⟨s', h1, h2⟩, .pass (x := .inLoop x) rfl (fun _ _ => .inl (by simp)) harr⟩
    intro b k cs
    obtain ⟨e, a', w', hq, harr⟩ := key _ i₀ rfl a w hI (hR.sub hsub) b k cs
    exact ⟨e, a', w', hq, .of_steps (.one step_loop) harr⟩
  | rangeFunc _ _ _ _ _ _ => intro s a w K h hR; exact h.elim
  | exit id => intro s a w K h hR; exact wp_exit ⟨s, h, hR⟩
  | scope x ih => intro s a w K h hR; exact h.elim
  | label l => intro s a w K h hR; exact wp_label ⟨s, h, hR⟩
  | goto l => intro s a w K h hR; exact h.elim
  | ret => intro s a w K h hR; exact wp_ret ⟨s, h, hR⟩
  | refuse why => intro s a w K h hR; exact h.elim

/-! ### Functions -/

noncomputable def resX (C : Ctx) (P : Program) (rs : List ResultVar) (s : St) (w : World) (K : List Value → Prop) : Prop :=
  (List.rec (motive := fun _ => (List Value → Prop) → Prop) (fun k => k [])
    (fun r _ ih k => ResultVar.casesOn (motive := fun _ => Prop) r (fun t => lk s.ρ t fun sv => SV.casesOn sv (fun v => ih fun vs => k (v :: vs)) (fun _ _ _ => False) (fun b => ih fun vs => k (.bool b :: vs)))
      (fun ad T => pureX C P (seqH P w) (.load T (.tmp ad)) T s.ρ s.bx fun sv => SV.casesOn sv (fun v => ih fun vs => k (v :: vs)) (fun _ _ _ => False) (fun b => ih fun vs => k (.bool b :: vs)))) rs : (List Value → Prop) → Prop) K

noncomputable def tupX (vs : List Value) : Value := match vs with | [v] => v | vs => .tuple vs.toArray

/-- The end of a function's walk. -/
noncomputable def endX (C : Ctx) (P : Program) (rs : List ResultVar) (R : Value → World → Prop) : Exit → St → World → Prop :=
  fun e s w => Exit.casesOn (motive := fun _ => Prop) e (resX C P rs s w fun vs => R (tupX vs) w) (fun _ => False) (fun _ => False) (resX C P rs s w fun vs => R (tupX vs) w) (fun _ => False) False

theorem resX_ok (hC : COk C P) {s : St} {a : Act} {w : World} (hR : Rel C s.ρ s.bx s.nb a w) : ∀ (rs : List ResultVar) (K : List Value → Prop), resX C P rs s w K →
    ∃ vs, (rs.mapM (fun (r : ResultVar) => match r with
      | .tmp t => (pure (a.tmps.getD t undef) : Sem Value)
      | .cell ad t => do loadVar t (← asAddr (a.tmps.getD ad undef)))).run P w = .ok vs w ∧ K vs
  | [], K, h => ⟨[], by simp, h⟩
  | .tmp t :: rs, K, h => by
    have h' : lk s.ρ t (fun sv => SV.casesOn (motive := fun _ => Prop) sv (fun v => resX C P rs s w fun vs => K (v :: vs)) (fun _ _ _ => False) (fun b => resX C P rs s w fun vs => K (.bool b :: vs))) := h
    obtain ⟨sv, h1, h2⟩ := lk_iff h'
    cases sv with
    | bp i r o => exact h2.elim
    | kb x =>
      obtain ⟨vs, g1, g2⟩ := resX_ok hC hR rs _ h2
      refine ⟨.bool x :: vs, ?_, g2⟩
      simp only [List.mapM_cons, Sem.run_bind, Sem.run_pure, Result.andThen_ok, g1]
      rw [(hR.A t _ h1).1]
      rfl
    | v x =>
      obtain ⟨vs, g1, g2⟩ := resX_ok hC hR rs _ h2
      refine ⟨x :: vs, ?_, g2⟩
      simp only [List.mapM_cons, Sem.run_bind, Sem.run_pure, Result.andThen_ok, g1]
      rw [(hR.A t _ h1).1]
      rfl
  | .cell ad T :: rs, K, h => by
    have h' : pureX C P (seqH P w) (.load T (.tmp ad)) T s.ρ s.bx (fun sv => SV.casesOn (motive := fun _ => Prop) sv (fun v => resX C P rs s w fun vs => K (v :: vs)) (fun _ _ _ => False) (fun b => resX C P rs s w fun vs => K (.bool b :: vs))) := h
    let o : Oper := { dst := none, op := .load T (.tmp ad), type := T, pos := "", after := #[], guard := none }
    obtain ⟨sv, h1, h2, h3⟩ := pure_ok hC (seqH_ok P w) hR.A (by rintro _ rfl; exact hR.B) (o := o) h'
    have h4 := h2 w rfl
    have h5 : (do loadVar T (← asAddr (a.tmps.getD ad undef)) : Sem Value).run P w = .ok sv.den w := by
      simp only [execOp, o, Instr.loadAt, Act.eval] at h4
      cases hv : a.tmps.getD ad undef with
      | pointer A =>
        rw [hv] at h4
        cases A with
        | none => simp [Instr.sureAddr] at h4
        | some p =>
          simp only [Instr.sureAddr, asAddr, Sem.run_bind, Sem.run_pure, Result.andThen_ok] at h4 ⊢
          cases hl : (loadVar T p).run P w with
          | ok u w' => rw [hl] at h4; simp at h4; obtain ⟨rfl, rfl⟩ := h4; rfl
          | halt e w' => rw [hl] at h4; simp at h4
      | _ => rw [hv] at h4; simp [Instr.sureAddr] at h4
    simp only [Sem.run_bind] at h5
    cases sv with
    | bp i r o => exact h3.elim
    | kb x =>
      obtain ⟨vs, g1, g2⟩ := resX_ok hC hR rs _ h3
      refine ⟨.bool x :: vs, ?_, g2⟩
      simp only [List.mapM_cons, Sem.run_bind, Sem.run_pure, g1]
      rw [h5]
      simp only [Result.andThen_ok, g1, SV.den]
    | v x =>
      obtain ⟨vs, g1, g2⟩ := resX_ok hC hR rs _ h3
      refine ⟨x :: vs, ?_, g2⟩
      simp only [List.mapM_cons, Sem.run_bind, Sem.run_pure, g1]
      rw [h5]
      simp only [Result.andThen_ok, g1, SV.den]

theorem tupX_eq (vs : Array Value) : (if h : vs.size = 1 then vs[0] else Value.tuple vs) = tupX vs.toList := by
  obtain ⟨l⟩ := vs
  match l with
  | [] => rfl
  | [x] => rfl
  | x :: y :: l => rfl

noncomputable def args0 (vs : List Value) : List (Nat × SV) := (List.rec (motive := fun _ => Nat → List (Nat × SV)) (fun _ => []) (fun v _ ih n => (n, .v v) :: ih (Nat.succ n)) vs : Nat → List (Nat × SV)) 0

theorem look_args : ∀ (vs : List Value) (n t : Nat) (s : SV), look ((List.rec (motive := fun _ => Nat → List (Nat × SV)) (fun _ => []) (fun v _ ih n => (n, .v v) :: ih (Nat.succ n)) vs : Nat → List (Nat × SV)) n) t = some s →
    ∃ v, vs[t - n]? = some v ∧ s = .v v ∧ n ≤ t
  | [], n, t, s, h => absurd h (by show ¬ (none = some s); simp)
  | v :: vs, n, t, s, h => by
    have h' : (bif Nat.beq n t then some (SV.v v) else look ((List.rec (motive := fun _ => Nat → List (Nat × SV)) (fun _ => []) (fun v _ ih n => (n, .v v) :: ih (Nat.succ n)) vs : Nat → List (Nat × SV)) (Nat.succ n)) t) = some s := h
    cases hb : Nat.beq n t
    · simp only [hb, cond_false] at h'
      obtain ⟨u, g1, g2, g3⟩ := look_args vs (n + 1) t s h'
      refine ⟨u, ?_, g2, by omega⟩
      rw [show t - n = (t - (n + 1)) + 1 by omega]
      simpa using g1
    · simp only [hb, cond_true] at h'
      injection h' with h'
      obtain rfl := Nat.eq_of_beq_eq_true hb
      exact ⟨v, by simp, h'.symm, Nat.le_refl _⟩

/-- **A function**: from the walk of its body. -/
theorem fn_ok (hC : COk C P) (hm : P.follows .mixedOrders = true) {f : Nat} {fn : Func} {c : Code} (hf : P.funcs[f]? = some fn) (hb : fn.body = some c) (hn : fn.ntmps = C.n)
    {args : List Value} (hl : args.length ≤ C.n) {w : World} {R : Value → World → Prop}
    (h : SW C P c ⟨args0 args, [], 0⟩ w (endX C P fn.results.toList R)) : Calls P f args.toArray w fun e w' => ∃ v, e = .returned v ∧ R v w' := by
  refine calls_of_wp hf hb ?_
  have hR : Rel C (args0 args) [] 0 { tmps := args.toArray ++ Array.replicate (fn.ntmps - args.toArray.size) undef, defers := [] } w := by
    refine ⟨by simp [hn]; omega, rfl, fun t s ht => ?_, by intro b hb; exact absurd hb (by simp), ⟨by intro b hb; exact absurd hb (by simp), by simp [rsOf]⟩⟩
    obtain ⟨v, h1, rfl, _⟩ := look_args args 0 t s ht
    refine ⟨?_, SVok.val v⟩
    simp only [Nat.sub_zero] at h1
    have hlt : t < args.length := by
      rcases Nat.lt_or_ge t args.length with h2 | h2
      · exact h2
      · rw [List.getElem?_eq_none h2] at h1; cases h1
    have h3 : args[t] = v := by rw [List.getElem?_eq_getElem hlt] at h1; injection h1
    simp [Array.getElem?_append, hlt, h3, SV.den]
  refine Code.wp_mono (fun e a w hq => ?_) (SW_ok hC hm c _ _ w _ h hR)
  obtain ⟨s, h1, h2⟩ := hq
  have fin : resX C P fn.results.toList s w (fun vs => R (tupX vs) w) → a.defers = [] ∧ ∃ v, (results fn a.tmps).run P w = .ok v w ∧ ∃ u, Ending.returned v = .returned u ∧ R u w := by
    intro hx
    obtain ⟨vs, g1, g2⟩ := resX_ok hC h2 _ _ hx
    refine ⟨h2.df, tupX vs, ?_, _, rfl, g2⟩
    simp only [results, Array.mapM_eq_mapM_toList, Sem.run_bind, Sem.run_map]
    refine Eq.trans (congrArg (fun (r : Result (List Value)) => (r.andThen fun (x : List Value) w' => Result.ok x.toArray w').andThen fun (x : Array Value) w' => Result.ok (if h : x.size = 1 then x[0] else Value.tuple x) w') g1) ?_
    simp only [Result.andThen_ok, tupX_eq]
  cases e with
  | normal => exact fin h1
  | ret => exact fin h1
  | exit id => exact h1.elim
  | goto l => exact h1.elim
  | panic ch => exact h1.elim
  | outgrown => exact h1.elim
end
end Go.Fw
