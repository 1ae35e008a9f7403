/- Package emit: what a checked tree grants, in plain Lean. No condition. -/
import Derived.Test.YtmjalmocaiokhaaGreatEmitS
import Derived.Test.YtmjalmocaiokhaaGreatCheckN
set_option linter.unusedVariables false
set_option linter.unusedSimpArgs false
set_option maxRecDepth 100000
namespace Go.Proofs.Tab
open Go Go.Fw

def locB (nS : Int) (x : Nd) (hd : List Nd) : Prop :=
  (x.op = 33 ∨ x.op = 11 ∨ x.op = 12 ∨ x.op = 16 → 0 ≤ x.n ∧ x.n < nS) ∧ (x.op = 14 → 0 ≤ x.m ∧ x.m < nS) ∧ (x.op = 15 → 0 ≤ x.n ∧ x.n + 2 < nS ∧ (nS ≤ 200 → u8 x.m = x.n + 1)) ∧
    (x.op = 50 → x.n = 5 → ∃ y : Nd, hd[1]? = some y ∧ y.op = 52)
def goods (nS : Int) : Fo → List Prop
  | .nil => []
  | .cons x ks r => (wfStep x ks.heads (goods nS ks) ∧ locB nS x ks.heads) :: goods nS r
theorem goods_length (nS : Int) : ∀ f : Fo, (goods nS f).length = f.len
  | .nil => rfl
  | .cons x ks r => by simp [goods, Fo.len, goods_length nS r]; omega
def AtP (l : List Prop) (j : Nat) : Prop := ∃ p, l[j]? = some p ∧ p
theorem atP_all {l : List Prop} (h : ∀ j, j < l.length → AtP l j) : ∀ p ∈ l, p := by
  intro p hp
  obtain ⟨j, hj⟩ := List.getElem?_of_mem hp
  obtain ⟨p', h1, h2⟩ := h j (List.getElem?_eq_some_iff.1 hj).1
  rw [hj] at h1; injection h1 with h1; subst h1; exact h2
theorem all_atP {l : List Prop} (h : ∀ p ∈ l, p) {j : Nat} (hj : j < l.length) : AtP l j := ⟨l[j], List.getElem?_eq_getElem hj, h _ (List.getElem_mem hj)⟩

theorem wf_mono {x : Nd} {hd : List Nd} {l m : List Prop} (hl : l.length = m.length) (h : ∀ j, AtP l j → AtP m j) (hw : wfStep x hd l) : wfStep x hd m := by
  have ha : (∀ p ∈ l, p) → ∀ p ∈ m, p := fun g => atP_all fun j hj => h j (all_atP g (by omega))
  unfold wfStep at hw ⊢
  dsimp only at hw ⊢
  rw [hl] at hw
  split at hw
  · rename_i c; rw [if_pos c]; exact ha hw
  rename_i c1; rw [if_neg c1]
  split at hw
  · rename_i c; rw [if_pos c]; exact trivial
  rename_i c2; rw [if_neg c2]
  split at hw
  · rename_i c; rw [if_pos c]; exact ⟨h 0 hw.1, h 1 hw.2⟩
  rename_i c3; rw [if_neg c3]
  split at hw
  · rename_i c; rw [if_pos c]; exact ⟨ha hw.1, hw.2⟩
  rename_i c4; rw [if_neg c4]
  split at hw
  · rename_i c; rw [if_pos c]
    split at hw
    · rename_i c'; rw [if_pos c']; exact ⟨h 0 hw.1, hw.2⟩
    · rename_i c'; rw [if_neg c']; exact ⟨ha hw.1, hw.2⟩
  rename_i c5; rw [if_neg c5]
  split at hw
  · rename_i c; rw [if_pos c]; exact ⟨h 0 hw.1, h 1 hw.2.1, fun e => h 2 (hw.2.2 e)⟩
  rename_i c6; rw [if_neg c6]
  split at hw
  · rename_i c; rw [if_pos c]; exact ⟨h 0 hw.1, h 1 hw.2⟩
  rename_i c7; rw [if_neg c7]
  exact ⟨hw.1, ha hw.2⟩
theorem goods_wfs (nS : Int) : ∀ (f : Fo) (j : Nat), AtP (goods nS f) j → AtP (wfs f) j
  | .nil, j, h => by obtain ⟨p, h1, _⟩ := h; simp [goods] at h1
  | .cons x ks r, 0, h => by
    obtain ⟨p, h1, h2⟩ := h
    simp only [goods, List.getElem?_cons_zero, Option.some.injEq] at h1; subst h1
    exact ⟨_, rfl, wf_mono (by rw [goods_length, wfs_length]) (goods_wfs nS ks) h2.1⟩
  | .cons x ks r, j + 1, h => by
    obtain ⟨p, h1, h2⟩ := h
    obtain ⟨p', g1, g2⟩ := goods_wfs nS r j ⟨p, by simpa [goods] using h1, h2⟩
    exact ⟨p', by simpa [wfs] using g1, g2⟩
/-- All kids are good. -/
theorem all_of {nS : Int} {ks : Fo} (h : ∀ j, j < ks.len → AtP (goods nS ks) j) : ∀ p ∈ goods nS ks, p := atP_all fun j hj => h j (by rwa [goods_length] at hj)

/-! ### Expressions -/
theorem wfAll {x : Nd} {hd : List Nd} {sub : List Prop} (h : ∀ p ∈ sub, p) (h0 : x.op = 10 ∨ x.op = 49 ∨ x.op = 19 ∨ x.op = 11 ∨ x.op = 12 ∨ x.op = 14) : wfStep x hd sub := by
  unfold wfStep; dsimp only; rw [if_pos h0]; exact h
theorem wfPlain {x : Nd} {hd : List Nd} {sub : List Prop} (h : ∀ p ∈ sub, p) (hp : (plainC x.op).isSome = true) (hn : ¬ (x.op = 10 ∨ x.op = 49 ∨ x.op = 19 ∨ x.op = 11 ∨ x.op = 12 ∨ x.op = 14 ∨ x.op = 30 ∨ x.op = 33 ∨ x.op = 36 ∨ x.op = 37 ∨ x.op = 38 ∨ x.op = 39 ∨ x.op = 50 ∨ x.op = 13 ∨ x.op = 16 ∨ x.op = 15)) : wfStep x hd sub := by
  unfold wfStep; dsimp only
  rw [if_neg (by omega), if_neg (by omega), if_neg (by omega), if_neg (by omega), if_neg (by omega), if_neg (by omega), if_neg (by omega)]
  exact ⟨hp, h⟩
theorem loc0 {nS : Int} {x : Nd} {hd : List Nd} (h : ¬ (x.op = 33 ∨ x.op = 11 ∨ x.op = 12 ∨ x.op = 16 ∨ x.op = 14 ∨ x.op = 15 ∨ x.op = 50)) : locB nS x hd :=
  ⟨fun e => absurd e (by omega), fun e => absurd e (by omega), fun e => absurd e (by omega), fun e => absurd e (by omega)⟩
theorem kh_some {ex : List Kh} {j : Nat} {q : Int × Int} (h : kh ex j = some q) : ex[j]? = some (some q) := by
  unfold kh at h
  cases hj : ex[j]? with
  | none => rw [hj] at h; cases h
  | some e => rw [hj] at h; simp at h; rw [h]
theorem wantL_some {r : Kh} {k h : Int} (e : wantL r k = some h) : ∃ q, r = some q := by
  cases r with
  | none => cases e
  | some q => exact ⟨q, rfl⟩

theorem argsL_some : ∀ {al : List Int} {ys : List Nd} {es : List Kh} {v h r : Int}, argsL al ys es v h = some r → al.length = ys.length → al.length = es.length →
    ∀ (j : Nat) (a : Int), al[j]? = some a → (a ≠ -1 → a ≠ -2 → ∃ e, es[j]? = some (some e)) ∧ (a = -2 → ∃ y : Nd, ys[j]? = some y ∧ y.op = 52)
  | [], _, _, _, _, _, _, _, _, j, a, hj => by simp at hj
  | a0 :: al, [], _, _, _, _, _, hl, _, _, _, _ => by simp at hl
  | a0 :: al, _ :: _, [], _, _, _, _, _, hl, _, _, _ => by simp at hl
  | a0 :: al, y :: ys, e :: es, v, h, r, hr, hl1, hl2, j, a, hj => by
    unfold argsL at hr
    by_cases c1 : a0 = -1
    · rw [if_pos c1] at hr
      split at hr
      · cases j with
        | zero => simp at hj; subst hj; exact ⟨fun g => absurd c1 g, fun g => by omega⟩
        | succ j => simpa using argsL_some hr (by simpa using hl1) (by simpa using hl2) j a (by simpa using hj)
      · cases hr
    rw [if_neg c1] at hr
    by_cases c2 : a0 = -2
    · rw [if_pos c2] at hr
      split at hr
      · rename_i c3
        simp only [Bool.and_eq_true, beq_iff_eq] at c3
        cases j with
        | zero => simp at hj; subst hj; exact ⟨fun _ g => absurd c2 g, fun _ => ⟨y, rfl, c3.1.1.1⟩⟩
        | succ j => simpa using argsL_some hr (by simpa using hl1) (by simpa using hl2) j a (by simpa using hj)
      · cases hr
    rw [if_neg c2] at hr
    cases e with
    | none => cases hr
    | some q =>
      rw [Option.bind_some] at hr
      split at hr
      · cases j with
        | zero => simp at hj; subst hj; exact ⟨fun _ _ => ⟨q, rfl⟩, fun g => absurd g c2⟩
        | succ j => simpa using argsL_some hr (by simpa using hl1) (by simpa using hl2) j a (by simpa using hj)
      · cases hr

theorem callL_some {s : Sg} {x : Nd} {hd : List Nd} {ex : List Kh} {h : Int} (hx : ex.length = hd.length) (hr : callL s x hd ex = some h) : hd.length = s.args.length ∧
    ∀ (j : Nat) (a : Int), s.args[j]? = some a → (a ≠ -1 → a ≠ -2 → ∃ e, ex[j]? = some (some e)) ∧ (a = -2 → ∃ y : Nd, hd[j]? = some y ∧ y.op = 52) := by
  unfold callL at hr
  split at hr
  · rename_i c
    simp only [Bool.and_eq_true, beq_iff_eq] at c
    exact ⟨c.1, argsL_some hr (by omega) (by omega)⟩
  · cases hr
theorem signL_some {l : List Sg} {n : Int} {s : Sg} (h : signL l n = some s) : 0 ≤ n ∧ n < l.length ∧ l[n.toNat]? = some s := by
  unfold signL at h
  split at h
  · cases h
  · have := (List.getElem?_eq_some_iff.1 h).1
    exact ⟨by omega, by omega, h⟩

section
variable {nS : Int} {sl : List Int} {se : Int → Option Bool}
theorem exprs_len (ks : Fo) : (exprs sl se ks).length = ks.heads.length := by rw [exprs_length, Fo.heads_length]

theorem exprG (hse : ∀ k b, se k = some b → 0 ≤ k ∧ k < sl.length) (hS : (sl.length : Int) ≤ nS) {x : Nd} {ks : Fo} (ih : ∀ (j : Nat) e, (exprs sl se ks)[j]? = some (some e) → AtP (goods nS ks) j) {q : Int × Int}
    (h : stepE sl se x ks.heads (exprs sl se ks) = some q) : wfStep x ks.heads (goods nS ks) ∧ locB nS x ks.heads := by
  have hgl := goods_length nS ks
  have hhl := Fo.heads_length ks
  unfold stepE at h
  by_cases o30 : x.op = 30
  · exact ⟨by unfold wfStep; dsimp only; rw [if_neg (by omega), if_pos (by omega)]; exact trivial, loc0 (by omega)⟩
  rw [if_neg o30] at h
  by_cases o31 : x.op = 31 ∨ x.op = 32
  · rw [if_pos o31] at h
    split at h
    · rename_i c
      simp only [Bool.and_eq_true, beq_iff_eq] at c
      refine ⟨wfPlain (all_of fun j hj => by omega) ?_ (by omega), loc0 (by omega)⟩
      rcases o31 with o | o <;> (rw [o]; rfl)
    · cases h
  rw [if_neg o31] at h
  by_cases o33 : x.op = 33
  · rw [if_pos o33] at h
    split at h
    · rename_i c
      simp only [Bool.and_eq_true, decide_eq_true_eq] at c
      obtain ⟨⟨⟨⟨c1, c2⟩, _⟩, _⟩, _⟩ := c
      obtain ⟨b, hb⟩ := Option.isSome_iff_exists.1 c1
      have := hse _ _ hb
      exact ⟨by unfold wfStep; dsimp only; rw [if_neg (by omega), if_pos (by omega)]; exact trivial, fun _ => ⟨by omega, by omega⟩, fun e => absurd e (by omega), fun e => absurd e (by omega), fun e => absurd e (by omega)⟩
    · cases h
  rw [if_neg o33] at h
  by_cases o49 : x.op = 49
  · rw [if_pos o49] at h
    obtain ⟨s, _, h⟩ := Option.bind_eq_some_iff.1 h
    split at h
    · rename_i c
      simp only [Bool.and_eq_true, beq_iff_eq] at c
      obtain ⟨g, hg, _⟩ := Option.map_eq_some_iff.1 h
      obtain ⟨e, he⟩ := wantL_some hg
      have h0 := ih 0 e (kh_some he)
      refine ⟨wfAll (all_of fun j hj => ?_) (by omega), loc0 (by omega)⟩
      obtain rfl : j = 0 := by omega
      exact h0
    · cases h
  rw [if_neg o49] at h
  by_cases o50 : x.op = 50
  · rw [if_pos o50] at h
    obtain ⟨s, hs, h⟩ := Option.bind_eq_some_iff.1 h
    obtain ⟨g, hg, _⟩ := Option.map_eq_some_iff.1 h
    obtain ⟨hlen, hargs⟩ := callL_some (exprs_len ks) hg
    obtain ⟨s0, s1, s2⟩ := signL_some hs
    have hfl : (funcsL.length : Int) = 9 := rfl
    rw [hfl] at s1
    refine ⟨?_, fun e => absurd e (by omega), fun e => absurd e (by omega), fun e => absurd e (by omega), fun _ e5 => ?_⟩
    · unfold wfStep; dsimp only
      rw [if_neg (by omega), if_neg (by omega), if_neg (by omega), if_neg (by omega), if_pos o50]
      have al : (∀ a ∈ s.args, a ≠ -1 ∧ a ≠ -2) → (∀ p ∈ goods nS ks, p) ∧ 0 ≤ x.n ∧ x.n < 9 := fun ha => ⟨all_of fun j hj => by
        have hj' : j < s.args.length := by omega
        obtain ⟨e, he⟩ := (hargs j _ (List.getElem?_eq_getElem hj')).1 (ha _ (List.getElem_mem _)).1 (ha _ (List.getElem_mem _)).2
        exact ih j e he, s0, s1⟩
      have two : ∀ a b, s.args = [a, b] → a ≠ -1 → a ≠ -2 → (∃ p, (goods nS ks)[0]? = some p ∧ p) ∧ 1 < (goods nS ks).length := fun a b hab h1 h2 => by
        obtain ⟨e, he⟩ := (hargs 0 a (by rw [hab]; rfl)).1 h1 h2
        refine ⟨ih 0 e he, ?_⟩
        rw [hab] at hlen
        simp at hlen
        omega
      obtain ⟨n, hn⟩ : ∃ n : Nat, x.n = n := ⟨x.n.toNat, by omega⟩
      rw [hn] at s2 s1 ⊢
      have hn9 : n < 9 := by omega
      simp only [Int.toNat_natCast] at s2
      have e : ∀ m : Nat, n = m → funcsL[m]? = some s := fun m hm => by rw [← hm]; exact s2
      rw [hn] at al
      by_cases c15 : (n : Int) = 1 ∨ (n : Int) = 5
      · rw [if_pos c15]
        rcases c15 with c | c
        · have := e 1 (by omega); injection this with this; subst this; exact two 4 (-1) rfl (by decide) (by decide)
        · have := e 5 (by omega); injection this with this; subst this; exact two 3 (-2) rfl (by decide) (by decide)
      · rw [if_neg c15]
        refine al ?_
        have : n = 0 ∨ n = 2 ∨ n = 3 ∨ n = 4 ∨ n = 6 ∨ n = 7 ∨ n = 8 := by omega
        rcases this with c | c | c | c | c | c | c <;> (have := e _ c; injection this with this; subst this; decide)
    · rw [e5] at s2
      injection s2 with s2
      subst s2
      exact (hargs 1 (-2) rfl).2 rfl
  rw [if_neg o50] at h
  unfold operL at h
  split at h
  · rename_i c
    simp only [Bool.and_eq_true, decide_eq_true_eq, beq_iff_eq] at c
    obtain ⟨⟨⟨c1, c2⟩, c3⟩, _⟩ := c
    obtain ⟨g, hg, h⟩ := Option.bind_eq_some_iff.1 h
    have h0 : AtP (goods nS ks) 0 := by
      unfold firstL at hg
      split at hg
      · obtain ⟨e, he, _⟩ := Option.bind_eq_some_iff.1 hg
        exact ih 0 e (kh_some he)
      · obtain ⟨e', he', _⟩ := Option.map_eq_some_iff.1 hg
        obtain ⟨e, he⟩ := wantL_some he'
        exact ih 0 e (kh_some he)
    have h1 : manyL x.op = 2 → AtP (goods nS ks) 1 := fun hm => by
      rw [if_pos hm] at h
      obtain ⟨e', he', _⟩ := Option.map_eq_some_iff.1 h
      obtain ⟨e, he⟩ := wantL_some he'
      exact ih 1 e (kh_some he)
    have hall : ∀ p ∈ goods nS ks, p := all_of fun j hj => by
      unfold manyL at c3 h1
      split at c3
      · obtain rfl : j = 0 := by omega
        exact h0
      · rename_i cm
        rw [if_neg cm] at h1
        have : j = 0 ∨ j = 1 := by omega
        rcases this with rfl | rfl
        · exact h0
        · exact h1 rfl
    refine ⟨?_, loc0 (by omega)⟩
    by_cases o36 : x.op = 36 ∨ x.op = 37
    · unfold wfStep; dsimp only
      rw [if_neg (by omega), if_neg (by omega), if_pos o36]
      exact ⟨h0, h1 (by unfold manyL; rw [if_neg (by omega)])⟩
    by_cases o38 : x.op = 38 ∨ x.op = 39
    · unfold wfStep; dsimp only
      rw [if_neg (by omega), if_neg (by omega), if_neg (by omega), if_pos o38]
      refine ⟨hall, ?_⟩
      unfold manyL at c3
      rw [if_neg (by omega)] at c3
      omega
    refine wfPlain hall ?_ (by omega)
    have : x.op = 34 ∨ x.op = 35 ∨ x.op = 40 ∨ x.op = 41 ∨ x.op = 42 ∨ x.op = 43 ∨ x.op = 44 ∨ x.op = 45 ∨ x.op = 46 ∨ x.op = 47 ∨ x.op = 48 := by omega
    rcases this with o | o | o | o | o | o | o | o | o | o | o <;> (rw [o]; rfl)
  · cases h

theorem exprsG (hse : ∀ k b, se k = some b → 0 ≤ k ∧ k < sl.length) (hS : (sl.length : Int) ≤ nS) : ∀ (f : Fo) (j : Nat) e, (exprs sl se f)[j]? = some (some e) → AtP (goods nS f) j
  | .nil, j, e, h => by simp [exprs] at h
  | .cons x ks r, 0, e, h => by
    simp [exprs] at h
    exact ⟨_, rfl, exprG hse hS (exprsG hse hS ks) h⟩
  | .cons x ks r, j + 1, e, h => by
    obtain ⟨p, g1, g2⟩ := exprsG hse hS r j e (by simpa [exprs] using h)
    exact ⟨p, by simpa [goods] using g1, g2⟩
end

/-! ### Statements -/
def SI (q : St2) : Prop := ∀ k b, q.2 k = some b → 0 ≤ k ∧ k < q.1.length
def TP (nS : Int) (m : Mn) (g : Prop) : Prop := ∀ q q', SI q → m q = some q' → SI q' ∧ (∃ l, q'.1 = q.1 ++ l) ∧ ((q'.1.length : Int) ≤ nS → g)
abbrev TPs (nS : Int) (sub : List (Mn × Mn)) (gs : List Prop) : Prop := All2 (fun m g => TP nS m.1 g ∧ TP nS m.2 g) sub gs
theorem pre_len {a b : List Int} (h : ∃ l, b = a ++ l) : a.length ≤ b.length := by obtain ⟨l, rfl⟩ := h; simp
theorem pre_trans {a b c : List Int} (h : ∃ l, b = a ++ l) (h' : ∃ l, c = b ++ l) : ∃ l, c = a ++ l := by
  obtain ⟨l, rfl⟩ := h; obtain ⟨l', rfl⟩ := h'; exact ⟨l ++ l', by simp⟩
theorem SI.del {q : St2} (h : SI q) (k : Int) : SI (delL k q) := by
  intro j b hj
  have hj' : setF q.2 k none j = some b := hj
  by_cases e : j = k
  · subst e; rw [setF_self] at hj'; cases hj'
  · rw [setF_ne _ _ e] at hj'; exact h j b hj'
theorem declP {n : Int} {lt : Bool} {l : List Int} {q q' : St2} (hl : 0 < l.length) (h : SI q) (hd : declL n lt l q.1 q.2 = some q') : SI q' ∧ q'.1 = q.1 ++ l ∧ n = q.1.length := by
  unfold declL at hd
  split at hd
  · rename_i c
    injection hd with hd
    subst hd
    refine ⟨fun k b hk => ?_, rfl, c⟩
    have hk' : setF q.2 q.1.length (some lt) k = some b := hk
    show 0 ≤ k ∧ k < ((q.1 ++ l).length : Nat)
    rw [List.length_append]
    by_cases e : k = q.1.length
    · omega
    · rw [setF_ne _ _ e] at hk'
      have := h k b hk'
      omega
  · cases hd
theorem forall_cons {g : Prop} {gs : List Prop} (h : g) (h' : ∀ p ∈ gs, p) : ∀ p ∈ g :: gs, p := by
  intro p hp
  rcases List.mem_cons.1 hp with rfl | hp
  · exact h
  · exact h' p hp

theorem stmtsP {nS : Int} {sub : List (Mn × Mn)} {gs : List Prop} (h : TPs nS sub gs) : ∀ {hd : List Nd}, hd.length = sub.length → TP nS (stmtsL hd sub) (∀ p ∈ gs, p) := by
  induction h with
  | nil =>
    intro hd _ q q' hq hr
    have : q' = q := by cases hd <;> (unfold stmtsL at hr; injection hr with hr; exact hr.symm)
    subst this
    exact ⟨hq, ⟨[], by simp⟩, fun _ p hp => absurd hp (by simp)⟩
  | @cons m g ms gs h0 _ ih =>
    intro hd hl q q' hq hr
    cases hd with
    | nil => simp at hl
    | cons y ys =>
      unfold stmtsL at hr
      obtain ⟨q1, h1, h2⟩ := Option.bind_eq_some_iff.1 hr
      obtain ⟨a1, a2, a3⟩ := h0.1 q q1 hq h1
      obtain ⟨b1, b2, b3⟩ := ih (by simpa using hl) q1 q' a1 h2
      have := pre_len b2
      exact ⟨b1, pre_trans a2 b2, fun e => forall_cons (a3 (by omega)) (b3 e)⟩
theorem blocksP {nS : Int} {sub : List (Mn × Mn)} {gs : List Prop} (h : TPs nS sub gs) : ∀ {hd : List Nd} (i : Nat), hd.length = sub.length → TP nS (blocksL hd sub i) (∀ p ∈ gs, p) := by
  induction h with
  | nil =>
    intro hd i _ q q' hq hr
    have : q' = q := by cases hd <;> (unfold blocksL at hr; injection hr with hr; exact hr.symm)
    subst this
    exact ⟨hq, ⟨[], by simp⟩, fun _ p hp => absurd hp (by simp)⟩
  | @cons m g ms gs h0 _ ih =>
    intro hd i hl q q' hq hr
    cases hd with
    | nil => simp at hl
    | cons y ys =>
      unfold blocksL at hr
      obtain ⟨q1, h1, h2⟩ := Option.bind_eq_some_iff.1 hr
      have k : SI q1 ∧ (∃ l, q1.1 = q.1 ++ l) ∧ ((q1.1.length : Int) ≤ nS → g) := by
        split at h1
        · exact h0.1 q q1 hq h1
        · exact h0.2 q q1 hq h1
      obtain ⟨a1, a2, a3⟩ := k
      obtain ⟨b1, b2, b3⟩ := ih (i + 1) (by simpa using hl) q1 q' a1 h2
      have := pre_len b2
      exact ⟨b1, pre_trans a2 b2, fun e => forall_cons (a3 (by omega)) (b3 e)⟩
theorem _root_.Go.Fw.All2.drop {α β : Type} {R : α → β → Prop} {l : List α} {m : List β} (h : All2 R l m) : ∀ n, All2 R (l.drop n) (m.drop n) := by
  induction h with
  | nil => intro n; simp; exact .nil
  | cons h0 h1 ih =>
    intro n
    cases n with
    | zero => exact .cons h0 h1
    | succ n => exact ih n
theorem _root_.Go.Fw.All2.take {α β : Type} {R : α → β → Prop} {l : List α} {m : List β} (h : All2 R l m) : ∀ n, All2 R (l.take n) (m.take n) := by
  induction h with
  | nil => intro n; simp; exact .nil
  | cons h0 h1 ih =>
    intro n
    cases n with
    | zero => exact .nil
    | succ n => exact .cons h0 (ih n)
theorem delsSI (l : List Int) : ∀ {q : St2}, SI q → SI (delsL l q) ∧ (delsL l q).1 = q.1 := by
  induction l with
  | nil => intro q h; exact ⟨h, rfl⟩
  | cons a l ih => intro q h; exact ih (h.del a)
theorem drop_all {gs : List Prop} {n : Nat} (h : ∀ p ∈ gs.drop n, p) {j : Nat} (hj : j < gs.length) (hn : n ≤ j) : AtP gs j := by
  refine ⟨gs[j], List.getElem?_eq_getElem hj, h _ ?_⟩
  have e : (gs.drop n)[j - n]? = some gs[j] := by rw [List.getElem?_drop, show n + (j - n) = j by omega, List.getElem?_eq_getElem hj]
  exact List.mem_of_getElem? e
theorem valueL_some {r : Kh} {k : Int} (h : valueL r k = true) : ∃ e, r = some e := by
  unfold valueL at h
  split at h
  · rename_i e; exact wantL_some e
  · cases h

section
variable {nS : Int} {x : Nd} {ks : Fo}
theorem blockTP (ih : TPs nS (sem ks) (goods nS ks)) : TP nS (blockB x ks.heads (sem ks)) (wfStep x ks.heads (goods nS ks) ∧ locB nS x ks.heads) := by
  intro q q' hq h
  unfold blockB at h
  split at h
  · rename_i c
    simp only [Bool.and_eq_true, beq_iff_eq] at c
    obtain ⟨q1, h1, rfl⟩ := Option.map_eq_some_iff.1 h
    obtain ⟨a1, a2, a3⟩ := stmtsP ih (by rw [Fo.heads_length, sem_length]) q q1 hq h1
    obtain ⟨b1, b2⟩ := delsSI (ownL ks.heads) a1
    exact ⟨b1, by rw [b2]; exact a2, fun e => by rw [b2] at e; exact ⟨wfAll (a3 e) (.inl c.1), loc0 (by omega)⟩⟩
  · cases h

theorem stepTP (ih : TPs nS (sem ks) (goods nS ks)) : TP nS (stepS x ks.heads (fun q => exprs q.1 q.2 ks) (sem ks)) (wfStep x ks.heads (goods nS ks) ∧ locB nS x ks.heads) := by
  intro q q' hq h
  have hgl := goods_length nS ks
  have hhl := Fo.heads_length ks
  have hsl := sem_length ks
  have hE : ∀ (q : St2), SI q → (q.1.length : Int) ≤ nS → ∀ j e, kh (exprs q.1 q.2 ks) j = some e → AtP (goods nS ks) j := fun q hq hl j e he => exprsG hq hl ks j e (kh_some he)
  have hV : ∀ (q : St2), SI q → (q.1.length : Int) ≤ nS → ∀ j k, valueL (kh (exprs q.1 q.2 ks) j) k = true → AtP (goods nS ks) j := fun q hq hl j k he => by
    obtain ⟨e, he⟩ := valueL_some he
    exact hE q hq hl j e he
  unfold stepS at h
  by_cases o11 : x.op = 11
  · rw [if_pos o11] at h
    split at h
    · rename_i c
      obtain ⟨e, he, h⟩ := Option.bind_eq_some_iff.1 h
      split at h
      · obtain ⟨a1, a2, a3⟩ := declP (by simp) hq h
        refine ⟨a1, ⟨_, a2⟩, fun hl => ?_⟩
        rw [a2] at hl
        simp at hl c
        refine ⟨wfAll (all_of fun j hj => ?_) (by omega), fun _ => ⟨by omega, by omega⟩, fun e => absurd e (by omega), fun e => absurd e (by omega), fun e => absurd e (by omega)⟩
        obtain rfl : j = 0 := by omega
        exact hE q hq (by omega) 0 e he
      · cases h
    · cases h
  rw [if_neg o11] at h
  by_cases o12 : x.op = 12
  · rw [if_pos o12] at h
    split at h
    · rename_i c
      injection h with h; subst h
      simp only [Bool.and_eq_true, decide_eq_true_eq, beq_iff_eq] at c
      obtain ⟨⟨⟨c1, ⟨c2, c3⟩, c4⟩, c5⟩, c6⟩ := c
      refine ⟨hq, ⟨[], by simp⟩, fun hl => ⟨wfAll (all_of fun j hj => ?_) (by omega), fun _ => ?_, fun e => absurd e (by omega), fun e => absurd e (by omega), fun e => absurd e (by omega)⟩⟩
      · simp at c1
        obtain rfl : j = 0 := by omega
        exact hV q hq hl 0 _ c6
      · have := hq _ _ c4
        omega
    · cases h
  rw [if_neg o12] at h
  by_cases o13 : x.op = 13
  · rw [if_pos o13] at h
    split at h
    · rename_i c
      simp only [Bool.and_eq_true] at c
      obtain ⟨⟨c1, c2⟩, c3⟩ := c
      obtain ⟨a1, a2, a3⟩ := blocksP (ih.drop 1) 0 (by rw [List.length_drop, List.length_drop, hhl, hsl]) q q' hq h
      have := pre_len a2
      have c1' : ks.heads.length = 2 ∨ ks.heads.length = 3 := by simp at c1; omega
      refine ⟨a1, a2, fun hl => ⟨?_, loc0 (by omega)⟩⟩
      unfold wfStep; dsimp only
      rw [if_neg (by omega), if_neg (by omega), if_neg (by omega), if_neg (by omega), if_neg (by omega), if_pos (by omega)]
      exact ⟨hV q hq (by omega) 0 _ c3, drop_all (a3 hl) (by omega) (by omega), fun e => drop_all (a3 hl) (by omega) (by omega)⟩
    · cases h
  rw [if_neg o13] at h
  by_cases o14 : x.op = 14
  · rw [if_pos o14] at h
    split at h
    · rename_i c
      obtain ⟨q1, d1, h⟩ := Option.bind_eq_some_iff.1 h
      obtain ⟨q2, d2, rfl⟩ := Option.map_eq_some_iff.1 h
      obtain ⟨b1, b2, b3⟩ := declP (by simp) hq d1
      obtain ⟨a1, a2, a3⟩ := blocksP ih 0 (by rw [hhl, hsl]) q1 q2 b1 d2
      have := pre_len a2
      rw [b2] at this
      simp at this
      refine ⟨a1.del _, pre_trans ⟨_, b2⟩ a2, fun hl => ⟨wfAll (a3 hl) (by omega), fun e => absurd e (by omega), fun _ => ?_, fun e => absurd e (by omega), fun e => absurd e (by omega)⟩⟩
      have hl' : (q2.1.length : Int) ≤ nS := hl
      omega
    · cases h
  rw [if_neg o14] at h
  by_cases o15 : x.op = 15
  · rw [if_pos o15] at h
    split at h
    · rename_i c
      simp only [Bool.and_eq_true, decide_eq_true_eq, beq_iff_eq] at c
      obtain ⟨⟨⟨c1, c2, c3⟩, c4⟩, c5⟩ := c
      obtain ⟨q1, d1, h⟩ := Option.bind_eq_some_iff.1 h
      obtain ⟨q2, d2, rfl⟩ := Option.map_eq_some_iff.1 h
      obtain ⟨b1, b2, b3⟩ := declP (by simp) hq d1
      obtain ⟨a1, a2, a3⟩ := blocksP (ih.drop 1) 0 (by rw [List.length_drop, List.length_drop, hhl, hsl]) q1 q2 b1 d2
      have := pre_len a2
      rw [b2] at this
      simp at this c1
      refine ⟨a1.del _, pre_trans ⟨_, b2⟩ a2, fun hl => ?_⟩
      have hl' : (q2.1.length : Int) ≤ nS := hl
      refine ⟨?_, fun e => absurd e (by omega), fun e => absurd e (by omega), fun _ => ⟨by omega, by omega, fun h200 => ?_⟩, fun e => absurd e (by omega)⟩
      · unfold wfStep; dsimp only
        rw [if_neg (by omega), if_neg (by omega), if_neg (by omega), if_neg (by omega), if_neg (by omega), if_neg (by omega), if_pos (by omega)]
        exact ⟨hV q hq (by omega) 0 _ c5, drop_all (a3 hl) (by omega) (by omega)⟩
      · have hn : 0 ≤ x.n ∧ x.n < 200 := ⟨by omega, by omega⟩
        unfold u8
        simp [IntKind.wrap, IntKind.signed, IntKind.bits] at c3 ⊢
        omega
    · cases h
  rw [if_neg o15] at h
  by_cases o16 : x.op = 16
  · rw [if_pos o16] at h
    split at h
    · rename_i c
      simp only [Bool.and_eq_true] at c
      obtain ⟨⟨c1, c2⟩, c3⟩ := c
      have c1' : ks.heads.length = 2 ∨ ks.heads.length = 3 := by simp at c1; omega
      obtain ⟨q1, d1, h⟩ := Option.bind_eq_some_iff.1 h
      obtain ⟨q2, d2, h⟩ := Option.bind_eq_some_iff.1 h
      obtain ⟨q3, d3, rfl⟩ := Option.map_eq_some_iff.1 d2
      obtain ⟨b1, b2, b3⟩ := declP (by simp) hq d1
      obtain ⟨a1, a2, a3⟩ := blocksP ((ih.drop 1).take 1) 0 (by rw [List.length_take, List.length_take, List.length_drop, List.length_drop, hhl, hsl]) q1 q3 b1 d3
      have p1 := pre_len a2
      rw [b2] at p1
      simp at p1
      have p13 := pre_trans ⟨_, b2⟩ a2
      have fin : ∀ q' : St2, q3.1.length ≤ q'.1.length → (q'.1.length : Int) ≤ nS → (3 ≤ (goods nS ks).length → AtP (goods nS ks) 2) → wfStep x ks.heads (goods nS ks) ∧ locB nS x ks.heads := fun q' h1 h2 h3 => by
        refine ⟨?_, fun _ => ⟨by omega, by omega⟩, fun e => absurd e (by omega), fun e => absurd e (by omega), fun e => absurd e (by omega)⟩
        unfold wfStep; dsimp only
        rw [if_neg (by omega), if_neg (by omega), if_neg (by omega), if_neg (by omega), if_neg (by omega), if_pos (by omega)]
        refine ⟨hV q hq (by omega) 0 _ c3, ?_, h3⟩
        refine ⟨(goods nS ks)[1]'(by omega), List.getElem?_eq_getElem _, a3 (by omega) _ ?_⟩
        rw [List.mem_iff_getElem]
        exact ⟨0, by simp; omega, by simp⟩
      split at h
      · rename_i c3'
        have h2 : 2 < (sem ks).length := by omega
        rw [List.getElem?_eq_getElem h2] at h
        have h2g : 2 < (goods nS ks).length := by omega
        obtain ⟨e1, e2, e3⟩ := (ih.at_ 2 _ _ (List.getElem?_eq_getElem h2) (List.getElem?_eq_getElem h2g)).2 _ _ (a1.del _) h
        have p3 := pre_len e2
        exact ⟨e1, pre_trans p13 e2, fun hl => fin q' p3 hl fun _ => ⟨_, List.getElem?_eq_getElem h2g, e3 hl⟩⟩
      · injection h with h; subst h
        exact ⟨a1.del _, p13, fun hl => fin _ (Nat.le_refl _) hl fun e => absurd e (by omega)⟩
    · cases h
  rw [if_neg o16] at h
  by_cases o17 : x.op = 17 ∨ x.op = 18
  · rw [if_pos o17] at h
    split at h
    · rename_i c
      injection h with h; subst h
      simp only [Bool.and_eq_true] at c
      have c1 := c.1
      simp at c1
      refine ⟨hq, ⟨[], by simp⟩, fun hl => ⟨wfPlain (all_of fun j hj => ?_) ?_ (by omega), loc0 (by omega)⟩⟩
      · rw [← hhl, c1] at hj; simp at hj
      · rcases o17 with o | o <;> (rw [o]; rfl)
    · cases h
  rw [if_neg o17] at h
  by_cases o19 : x.op = 19
  · rw [if_pos o19] at h
    obtain ⟨s, hs, h⟩ := Option.bind_eq_some_iff.1 h
    obtain ⟨g, hg, h⟩ := Option.bind_eq_some_iff.1 h
    split at h
    · injection h with h; subst h
      obtain ⟨hlen, hargs⟩ := callL_some (exprs_len ks) hg
      obtain ⟨s0, s1, s2⟩ := signL_some hs
      have hpos : ∀ s ∈ effectsL, ∀ a ∈ s.args, a ≠ -1 ∧ a ≠ -2 := by decide
      refine ⟨hq, ⟨[], by simp⟩, fun hl => ⟨wfAll (all_of fun j hj => ?_) (by omega), loc0 (by omega)⟩⟩
      have hj' : j < s.args.length := by omega
      have hp := hpos s (List.mem_of_getElem? s2) _ (List.getElem_mem hj')
      obtain ⟨e, he⟩ := (hargs j _ (List.getElem?_eq_getElem hj')).1 hp.1 hp.2
      exact exprsG hq hl ks j e he
    · cases h
  rw [if_neg o19] at h
  cases h

theorem semP (nS : Int) : ∀ f : Fo, TPs nS (sem f) (goods nS f)
  | .nil => .nil
  | .cons x ks r => .cons ⟨stepTP (semP nS ks), blockTP (semP nS ks)⟩ (semP nS r)
end

theorem SI0 : SI ([3, 4], seen0) := by
  intro k b hk
  have hk' : seen0 k = some b := hk
  unfold seen0 setF at hk'
  show 0 ≤ k ∧ k < 2
  split at hk'
  · omega
  · split at hk'
    · omega
    · cases hk'

/-- What a checked ability grants. -/
theorem able_goods {a : Ab} {f : Fo} (h : AbleP a f) : ∀ p ∈ goods a.slots.length f, p := by
  obtain ⟨se, hs⟩ := h.sem
  rcases able_split h with ⟨hw, xc, kc, xb, kb, rfl, _⟩ | ⟨hw, xb, kb, rfl, _⟩
  · rw [hw] at hs
    have hs : (if valueL (stepE [3, 4] seen0 xc kc.heads (exprs [3, 4] seen0 kc)) 2 then blockB xb kb.heads (sem kb) ([3, 4], seen0) else none) = some (a.slots, se) := hs
    split at hs
    · rename_i c
      obtain ⟨a1, a2, a3⟩ := blockTP (x := xb) (semP (a.slots.length : Int) kb) _ _ SI0 hs
      have hp := pre_len a2
      obtain ⟨e, he⟩ := valueL_some c
      refine forall_cons ?_ (forall_cons (a3 (Int.le_refl _)) (by simp [goods]))
      have hp2 : ((([3, 4] : List Int).length : Nat) : Int) ≤ (a.slots.length : Int) := Int.ofNat_le.2 hp
      exact exprG (sl := [3, 4]) (se := seen0) SI0 hp2 (exprsG (sl := [3, 4]) (se := seen0) SI0 hp2 kc) he
    · cases hs
  · rw [hw] at hs
    have hs : blockB xb kb.heads (sem kb) ([3, 4], seen0) = some (a.slots, se) := hs
    obtain ⟨a1, a2, a3⟩ := blockTP (x := xb) (semP (a.slots.length : Int) kb) _ _ SI0 hs
    exact forall_cons (a3 (Int.le_refl _)) (by simp [goods])
theorem able_wfs {a : Ab} {f : Fo} (h : AbleP a f) : ∀ p ∈ wfs f, p :=
  atP_all fun j hj => goods_wfs _ f j (all_atP (able_goods h) (by rw [goods_length]; rwa [wfs_length] at hj))
end Go.Proofs.Tab
