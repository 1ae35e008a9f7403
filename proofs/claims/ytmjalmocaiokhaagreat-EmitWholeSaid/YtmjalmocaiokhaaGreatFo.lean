/- Forests: a list of nodes read as trees, in plain Lean. No condition. -/
import Derived.Test.YtmjalmocaiokhaaGreatTreeS
set_option linter.unusedVariables false
set_option linter.unusedSimpArgs false
namespace Go.Fw

/-- Trees, one behind the other: the first tree's node, its kids, the trees behind it. -/
inductive Fo where
  | nil
  | cons (x : Nd) (ks rest : Fo)

namespace Fo
def size : Fo → Nat
  | nil => 0
  | cons _ ks r => 1 + ks.size + r.size
def len : Fo → Nat
  | nil => 0
  | cons _ _ r => 1 + r.len
def heads : Fo → List Nd
  | nil => []
  | cons x _ r => x :: r.heads
/-- Where the trees stand, if the first stands at i. -/
def pos : Fo → Nat → List Nat
  | nil, _ => []
  | cons _ ks r, i => i :: r.pos (i + 1 + ks.size)
/-- The trees, each with its place. -/
def at_ : Fo → Nat → List (Nat × Nd × Fo)
  | nil, _ => []
  | cons x ks r, i => (i, x, ks) :: r.at_ (i + 1 + ks.size)
theorem pos_length : ∀ (f : Fo) (i : Nat), (f.pos i).length = f.len
  | nil, _ => rfl
  | cons _ ks r, i => by simp [pos, len, pos_length r]; omega
theorem heads_length : ∀ (f : Fo), f.heads.length = f.len
  | nil => rfl
  | cons _ ks r => by simp [heads, len, heads_length r]; omega
theorem len_le_size : ∀ f : Fo, f.len ≤ f.size
  | nil => Nat.le_refl _
  | cons _ ks r => by simp only [len, size]; have := len_le_size r; omega
theorem pos_ge : ∀ (f : Fo) (i j p : Nat), (f.pos i)[j]? = some p → i + j ≤ p ∧ p < i + f.size
  | nil, _, _, _, h => by simp [pos] at h
  | cons x ks r, i, 0, p, h => by simp [pos] at h; simp only [size]; omega
  | cons x ks r, i, j + 1, p, h => by
    have := pos_ge r (i + 1 + ks.size) j p (by simpa [pos] using h)
    simp only [size]; omega
end Fo

/-- The forest stands in t, at i. -/
def FoAt (t : List Nd) : Nat → Fo → Prop
  | _, .nil => True
  | i, .cons x ks r => t[i]? = some x ∧ x.kids = ks.len ∧ FoAt t (i + 1) ks ∧ FoAt t (i + 1 + ks.size) r

theorem FoAt.le {t : List Nd} : ∀ {f : Fo} {i : Nat}, FoAt t i f → i ≤ t.length → i + f.size ≤ t.length
  | .nil, i, _, hi => by simpa [Fo.size] using hi
  | .cons x ks r, i, h, hi => by
    obtain ⟨h1, h2, h3, h4⟩ := h
    have hlt := (List.getElem?_eq_some_iff.1 h1).1
    have a := FoAt.le h3 (by omega)
    have b := FoAt.le h4 a
    simp only [Fo.size]; omega
theorem FoAt.lt {t : List Nd} {x : Nd} {ks r : Fo} {i : Nat} (h : FoAt t i (.cons x ks r)) : i < t.length := (List.getElem?_eq_some_iff.1 h.1).1
theorem FoAt.get {t : List Nd} {x : Nd} {ks r : Fo} {i : Nat} (h : FoAt t i (.cons x ks r)) : t[i]'h.lt = x := by
  have := h.1; rw [List.getElem?_eq_getElem h.lt] at this; injection this

theorem skip_fo {t : List Nd} : ∀ {f : Fo} {i : Nat} {left : Int}, FoAt t i f → i ≤ t.length → 0 ≤ left → skip t.length i (f.len + left) (t.drop i) = skip t.length (i + f.size) left (t.drop (i + f.size))
  | .nil, i, left, _, _, _ => by simp [Fo.len, Fo.size]
  | .cons x ks r, i, left, h, hi, hl => by
    have hlt := h.lt
    have hx := h.get
    obtain ⟨h1, h2, h3, h4⟩ := h
    have hle := FoAt.le h3 (by omega)
    have := ks.len_le_size
    rw [List.drop_eq_getElem_cons hlt, skip_cons _ _ _ _ _ (by simp only [Fo.len]; omega), hx, if_neg (by omega)]
    have e : ((Fo.cons x ks r).len : Int) + left + (x.kids - 1) = ks.len + (r.len + left) := by simp only [Fo.len]; omega
    rw [e, skip_fo h3 (by omega) (by omega), skip_fo h4 hle hl]
    simp only [Fo.size]
    congr 1
    · omega
    · congr 1; omega

theorem endO_fo {t : List Nd} {x : Nd} {ks r : Fo} {i : Nat} (h : FoAt t i (.cons x ks r)) : endO t i = some (i + 1 + ks.size) := by
  have h' : FoAt t i (.cons x ks .nil) := ⟨h.1, h.2.1, h.2.2.1, trivial⟩
  have := skip_fo (left := 0) h' (Nat.le_of_lt h.lt) (by omega)
  unfold endO
  simp only [Fo.len, Fo.size] at this
  rw [show ((1 + 0 : Nat) : Int) + 0 = 1 by rfl] at this
  rw [this, skip_done _ _ _ _ (by omega)]
  congr 1; omega

theorem whole_fo {t : List Nd} {x : Nd} {ks r : Fo} {i : Nat} (h : FoAt t i (.cons x ks r)) : Whole t i := by
  unfold Whole; rw [endO_fo h]; simp

/-- The place of the j-th tree, by skipping. -/
theorem skip_pos {t : List Nd} : ∀ {f : Fo} {i j p : Nat}, FoAt t i f → i ≤ t.length → (f.pos i)[j]? = some p → skip t.length i j (t.drop i) = some p
  | .nil, _, _, _, _, _, h => by simp [Fo.pos] at h
  | .cons x ks r, i, 0, p, h, hi, hp => by
    simp [Fo.pos] at hp; subst hp
    exact skip_done _ _ _ _ (by simp)
  | .cons x ks r, i, j + 1, p, h, hi, hp => by
    have h' : FoAt t i (.cons x ks .nil) := ⟨h.1, h.2.1, h.2.2.1, trivial⟩
    have h4 := h.2.2.2
    have e := skip_fo (left := (j : Int)) h' hi (by omega)
    simp only [Fo.len, Fo.size] at e
    rw [show ((j + 1 : Nat) : Int) = ((1 + 0 : Nat) : Int) + (j : Int) by omega, e, show i + (1 + ks.size + 0) = i + 1 + ks.size by omega]
    have hle := FoAt.le h'.2.2.1 (by have := h.lt; omega)
    exact skip_pos h4 hle (by simpa [Fo.pos] using hp)

theorem kidsL_fo {t : List Nd} {x : Nd} {ks r : Fo} {i : Nat} (h : FoAt t i (.cons x ks r)) : kidsL t i = (ks.pos (i + 1)).map (Int.ofNat ·) := by
  rw [kidsL_whole (whole_fo h) h.lt, h.get, h.2.1]
  apply List.ext_getElem?
  intro j
  rw [List.getElem?_map, List.getElem?_map]
  rcases Nat.lt_or_ge j ks.len with hj | hj
  · rw [show ((ks.len : Int).toNat) = ks.len from rfl, List.getElem?_range hj]
    have hp : (ks.pos (i + 1))[j]? = some ((ks.pos (i + 1))[j]'(by rw [Fo.pos_length]; exact hj)) := List.getElem?_eq_getElem _
    rw [hp]
    simp only [Option.map_some]
    unfold kidsO
    rw [skip_pos h.2.2.1 h.lt hp]
    rfl
  · rw [List.getElem?_eq_none (by simp; omega), List.getElem?_eq_none (by rw [Fo.pos_length]; omega)]; rfl

/-- Where so many trees can be skipped, there is a forest. -/
theorem fo_of_skip {t : List Nd} : ∀ (m : Nat) {i k e : Nat}, t.length - i ≤ m → i ≤ t.length → skip t.length i k (t.drop i) = some e → ∃ f : Fo, f.len = k ∧ FoAt t i f ∧ e = i + f.size := by
  intro m
  induction m with
  | zero =>
    intro i k e hm hi h
    rw [List.drop_eq_nil_of_le (by omega)] at h
    cases k with
    | zero => rw [skip_done _ _ _ _ (by simp)] at h; injection h with h; exact ⟨.nil, rfl, trivial, by simp [Fo.size, h]⟩
    | succ k => rw [skip_nil _ _ _ (by omega)] at h; cases h
  | succ m ih =>
    intro i k e hm hi h
    cases k with
    | zero => rw [skip_done _ _ _ _ (by simp)] at h; injection h with h; exact ⟨.nil, rfl, trivial, by simp [Fo.size, h]⟩
    | succ k =>
      rcases Nat.lt_or_ge i t.length with hlt | hge
      · rw [List.drop_eq_getElem_cons hlt, skip_cons _ _ _ _ _ (by omega)] at h
        split at h
        · cases h
        · rename_i hk
          obtain ⟨c, hc⟩ : ∃ c : Nat, t[i].kids = c := ⟨t[i].kids.toNat, by omega⟩
          rw [hc, show ((k + 1 : Nat) : Int) + ((c : Int) - 1) = (c : Int) + (k : Int) by omega, skip_add (by omega) (by omega)] at h
          cases hs : skip t.length (i + 1) c (t.drop (i + 1)) with
          | none => rw [hs] at h; cases h
          | some p =>
            rw [hs, Option.bind_some, List.drop_drop] at h
            obtain ⟨ks, k1, k2, k3⟩ := ih (i := i + 1) (by omega) (by omega) hs
            have hpl := skip_le hs
            simp only [List.length_drop] at hpl
            rw [show i + 1 + (p - (i + 1)) = p by omega] at h
            obtain ⟨r, r1, r2, r3⟩ := ih (i := p) (by omega) (by omega) h
            refine ⟨.cons t[i] ks r, by simp [Fo.len, r1]; omega, ⟨List.getElem?_eq_getElem hlt, by rw [hc, k1], k2, by rw [k3] at r2; exact r2⟩, ?_⟩
            simp only [Fo.size]; omega
      · rw [List.drop_eq_nil_of_le hge, skip_nil _ _ _ (by omega)] at h; cases h

theorem fo_of_end {t : List Nd} {i e : Nat} (h : endO t i = some e) : ∃ x ks, FoAt t i (.cons x ks .nil) ∧ e = i + 1 + ks.size := by
  have hi := (endO_lt h).1
  unfold endO at h
  obtain ⟨f, f1, f2, f3⟩ := fo_of_skip (k := 1) t.length (by omega) (by omega) h
  cases f with
  | nil => simp [Fo.len] at f1
  | cons x ks r =>
    cases r with
    | nil => exact ⟨x, ks, f2, by simp only [Fo.size] at f3; omega⟩
    | cons y a b => simp only [Fo.len] at f1; omega
end Go.Fw
