/- Trees: what Behind, ends and Kids compute, in plain Lean. No condition. -/
import Derived.Test.YtmjalmocaiokhaaGreatDat
set_option linter.unusedVariables false
namespace Go.Fw

/-- The place behind so many trees; none: there is none. -/
def skip (n : Nat) (pos : Nat) (left : Int) (l : List Nd) : Option Nat :=
  if left ≤ 0 then some pos else match l with
    | [] => none
    | x :: l => if x.kids < 0 ∨ (n : Int) < x.kids then none else skip n (pos + 1) (left + (x.kids - 1)) l

def optI : Option Nat → Int
  | none => -1
  | some p => p

def behind (t : List Nd) (i : Int) : Int :=
  if i < 0 ∨ (t.length : Int) ≤ i then -1 else optI (skip t.length i.toNat 1 (t.drop i.toNat))

theorem skip_done (n pos : Nat) (left : Int) (l : List Nd) (h : left ≤ 0) : skip n pos left l = some pos := by unfold skip; rw [if_pos h]
theorem skip_nil (n pos : Nat) (left : Int) (h : 0 < left) : skip n pos left [] = none := by unfold skip; rw [if_neg (by omega)]
theorem skip_cons (n pos : Nat) (left : Int) (x : Nd) (l : List Nd) (h : 0 < left) :
    skip n pos left (x :: l) = if x.kids < 0 ∨ (n : Int) < x.kids then none else skip n (pos + 1) (left + (x.kids - 1)) l := by
  rw [skip, if_neg (by omega)]

theorem skip_le {n : Nat} : ∀ {l : List Nd} {pos : Nat} {left : Int} {p : Nat}, skip n pos left l = some p → pos ≤ p ∧ p ≤ pos + l.length
  | [], pos, left, p, h => by
    by_cases h0 : left ≤ 0
    · rw [skip_done _ _ _ _ h0] at h; injection h with h; subst h; simp
    · rw [skip_nil _ _ _ (by omega)] at h; cases h
  | x :: l, pos, left, p, h => by
    by_cases h0 : left ≤ 0
    · rw [skip_done _ _ _ _ h0] at h; injection h with h; subst h; simp
    · rw [skip_cons _ _ _ _ _ (by omega)] at h
      split at h
      · cases h
      · have := skip_le h
        simp only [List.length_cons]
        omega

theorem skip_add {n : Nat} : ∀ {l : List Nd} {pos : Nat} {a b : Int}, 0 ≤ a → 0 ≤ b → skip n pos (a + b) l = (skip n pos a l).bind fun p => skip n p b (l.drop (p - pos))
  | [], pos, a, b, ha, hb => by
    by_cases h0 : a ≤ 0
    · obtain rfl : a = 0 := by omega
      rw [skip_done n pos 0 [] (by omega)]
      simp
    · rw [skip_nil n pos a (by omega), skip_nil n pos (a + b) (by omega)]; rfl
  | x :: l, pos, a, b, ha, hb => by
    by_cases h0 : a ≤ 0
    · obtain rfl : a = 0 := by omega
      rw [skip_done n pos 0 _ (by omega)]
      simp
    · rw [skip_cons n pos a x l (by omega), skip_cons n pos (a + b) x l (by omega)]
      by_cases hk : x.kids < 0 ∨ (n : Int) < x.kids
      · rw [if_pos hk, if_pos hk]; rfl
      · rw [if_neg hk, if_neg hk]
        have e : a + b + (x.kids - 1) = (a + (x.kids - 1)) + b := by omega
        rw [e, skip_add (by omega) hb]
        cases hs : skip n (pos + 1) (a + (x.kids - 1)) l with
        | none => rfl
        | some p =>
          have := (skip_le hs).1
          simp only [Option.bind_some]
          rw [show p - pos = (p - (pos + 1)) + 1 by omega, List.drop_succ_cons]

/-- The place behind the tree at i. -/
def endO (t : List Nd) (i : Nat) : Option Nat := skip t.length i 1 (t.drop i)
/-- The place behind k trees that begin behind i. -/
def kidsO (t : List Nd) (i k : Nat) : Option Nat := skip t.length (i + 1) k (t.drop (i + 1))

theorem behind_eq {t : List Nd} {i : Nat} (h : i < t.length) : behind t i = optI (endO t i) := by
  unfold behind endO; rw [if_neg (by omega)]; simp
theorem kidsO_zero (t : List Nd) (i : Nat) : kidsO t i 0 = some (i + 1) := skip_done _ _ _ _ (by simp)
theorem kidsO_succ (t : List Nd) (i k : Nat) : kidsO t i (k + 1) = (kidsO t i k).bind (endO t) := by
  unfold kidsO endO
  rw [show ((k + 1 : Nat) : Int) = (k : Int) + 1 by omega, skip_add (by omega) (by omega)]
  cases hs : skip t.length (i + 1) k (t.drop (i + 1)) with
  | none => rfl
  | some p =>
    have := (skip_le hs).1
    simp only [Option.bind_some, List.drop_drop]
    rw [show i + 1 + (p - (i + 1)) = p by omega]
theorem endO_eq {t : List Nd} {i : Nat} (h : i < t.length) : endO t i = if t[i].kids < 0 ∨ (t.length : Int) < t[i].kids then none else kidsO t i t[i].kids.toNat := by
  unfold endO kidsO
  rw [List.drop_eq_getElem_cons h, skip_cons _ _ _ _ _ (by omega)]
  split
  · rfl
  · congr 1; omega
theorem endO_beyond {t : List Nd} {i : Nat} (h : t.length ≤ i) : endO t i = none := by
  unfold endO; rw [List.drop_eq_nil_of_le h, skip_nil _ _ _ (by omega)]
theorem endO_lt {t : List Nd} {i p : Nat} (h : endO t i = some p) : i < t.length ∧ i < p ∧ p ≤ t.length := by
  rcases Nat.lt_or_ge i t.length with h1 | h1
  · refine ⟨h1, ?_⟩
    rw [endO_eq h1] at h
    split at h
    · cases h
    · have := skip_le h
      simp at this
      omega
  · rw [endO_beyond h1] at h; cases h
theorem kidsO_ge {t : List Nd} {i k p : Nat} (hi : i < t.length) (h : kidsO t i k = some p) : i < p ∧ p ≤ t.length := by
  have := skip_le h
  simp at this
  omega
theorem kidsO_mono {t : List Nd} {i : Nat} : ∀ {k j : Nat}, j ≤ k → kidsO t i k ≠ none → kidsO t i j ≠ none := by
  intro k
  induction k with
  | zero => intro j hj h; rwa [show j = 0 by omega]
  | succ k ih =>
    intro j hj h
    by_cases e : j = k + 1
    · rwa [e]
    · refine ih (by omega) fun h2 => h ?_
      rw [kidsO_succ, h2]; rfl

/-- The list of all ends. -/
def endsL (t : List Nd) : List Int := (List.range t.length).map fun i => optI (endO t i)
theorem endsL_get {t : List Nd} {i : Nat} (h : i < t.length) : (endsL t)[i]? = some (optI (endO t i)) := by simp [endsL, h]
theorem endsL_length (t : List Nd) : (endsL t).length = t.length := by simp [endsL]

/-- Is there a whole tree at i? -/
def Whole (t : List Nd) (i : Nat) : Prop := endO t i ≠ none

/-- The places of the kids of a whole tree. -/
def kidsL (t : List Nd) (i : Int) : List Int :=
  if behind t i < 0 then [] else (List.range ((t.getD i.toNat default).kids.toNat)).map fun k => optI (kidsO t i.toNat k)

theorem whole_kids {t : List Nd} {i : Nat} (h : Whole t i) : i < t.length ∧ ∀ hi : i < t.length, 0 ≤ t[i].kids ∧ t[i].kids ≤ t.length ∧ kidsO t i t[i].kids.toNat ≠ none := by
  unfold Whole at h
  cases he : endO t i with
  | none => exact absurd he h
  | some p =>
    have h1 := (endO_lt he).1
    refine ⟨h1, fun hi => ?_⟩
    rw [endO_eq h1] at he
    split at he
    · cases he
    · rename_i hk
      exact ⟨by omega, by omega, by rw [he]; simp⟩

theorem behind_whole {t : List Nd} {i : Nat} : 0 ≤ behind t i ↔ Whole t i := by
  unfold Whole
  rcases Nat.lt_or_ge i t.length with h | h
  · rw [behind_eq h]
    cases endO t i with
    | none => simp [optI]
    | some p => simp [optI]
  · rw [endO_beyond h]
    unfold behind
    rw [if_pos (.inr (by omega))]
    simp

theorem kidsL_whole {t : List Nd} {i : Nat} (h : Whole t i) (hi : i < t.length) : kidsL t i = (List.range t[i].kids.toNat).map fun k => optI (kidsO t i k) := by
  unfold kidsL
  rw [if_neg (by have := behind_whole.2 h; omega)]
  simp [hi]

/-- A kid is a whole tree, further on. -/
theorem kid_whole {t : List Nd} {i k : Nat} (h : Whole t i) (hi : i < t.length) (hk : k < t[i].kids.toNat) : ∃ p, kidsO t i k = some p ∧ i < p ∧ p < t.length ∧ Whole t p := by
  obtain ⟨_, h2⟩ := whole_kids h
  obtain ⟨h3, h4, h5⟩ := h2 hi
  have h6 : kidsO t i (k + 1) ≠ none := kidsO_mono (by omega) h5
  rw [kidsO_succ] at h6
  cases hp : kidsO t i k with
  | none => rw [hp] at h6; exact absurd rfl h6
  | some p =>
    rw [hp] at h6
    have h7 : endO t p ≠ none := h6
    have h8 := kidsO_ge hi hp
    refine ⟨p, rfl, h8.1, ?_, h7⟩
    rcases Nat.lt_or_ge p t.length with h9 | h9
    · exact h9
    · exact absurd (endO_beyond h9) h7

theorem kidsL_mem {t : List Nd} {i : Nat} (h : Whole t i) {x : Int} (hx : x ∈ kidsL t i) : ∃ p : Nat, x = p ∧ i < p ∧ p < t.length ∧ Whole t p := by
  obtain ⟨hi, _⟩ := whole_kids h
  rw [kidsL_whole h hi] at hx
  obtain ⟨k, hk, rfl⟩ := List.mem_map.1 hx
  obtain ⟨p, h1, h2, h3, h4⟩ := kid_whole h hi (List.mem_range.1 hk)
  exact ⟨p, by rw [h1]; rfl, h2, h3, h4⟩

end Go.Fw
