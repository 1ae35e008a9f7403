/- Package emit: what is made is whole, in plain Lean. No condition. -/
import Derived.Test.YtmjalmocaiokhaaGreatEmitL
import Derived.Test.YtmjalmocaiokhaaGreatEmitV
set_option linter.unusedVariables false
set_option linter.unusedSimpArgs false
set_option maxRecDepth 100000
namespace Go.Proofs.Tab
open Go Go.Fw

/-- How many bytes stand behind an opcode. -/
def szL (op : Int) : Option Nat :=
  if op = 1 ∨ op = 30 ∨ op = 31 ∨ op = 33 ∨ op = 45 then some 2
  else if op = 4 ∨ op = 5 ∨ op = 24 ∨ op = 41 ∨ op = 46 ∨ op = 60 then some 1
  else if op = 32 then some 4
  else if op = 2 ∨ op = 3 ∨ (10 ≤ op ∧ op ≤ 23) ∨ op = 34 ∨ op = 35 ∨ op = 40 ∨ op = 42 ∨ op = 43 ∨ op = 44 then some 0
  else none
def jumpO (op : Int) : Prop := op = 30 ∨ op = 31 ∨ op = 32 ∨ op = 33
structure Lim where
  nS : Int
  nI : Int
  nT : Int
  must : Prop
def pair (a b : Int) : Int := 256 * a + b
def arg (x : List Int) (i : Nat) : Int := x.getD i 0
/-- One instruction's bytes. -/
structure InsOk (L : Lim) (x : List Int) : Prop where
  ne : x ≠ []
  sz : szL (arg x 0) = some (x.length - 1)
  by_ : ∀ b ∈ x, 0 ≤ b ∧ b < 256
  push : arg x 0 = 1 → pair (arg x 1) (arg x 2) < L.nI
  is_ : arg x 0 = 45 → pair (arg x 1) (arg x 2) < L.nT
  slot : arg x 0 = 4 ∨ arg x 0 = 5 ∨ arg x 0 = 32 → arg x 1 < L.nS
  slot2 : arg x 0 = 32 → arg x 2 < L.nS
def IsStart (l : List (List Int)) (p : Nat) : Prop := ∃ l1 l2, l = l1 ++ l2 ∧ p = l1.flatten.length
def IsHole (l : List (List Int)) (a : Nat) : Prop := ∃ l1 x l2, l = l1 ++ x :: l2 ∧ jumpO (arg x 0) ∧ a + 2 = l1.flatten.length + x.length ∧ 3 ≤ x.length
def tgt (x : List Int) : Int := pair (arg x (x.length - 2)) (arg x (x.length - 1))
structure GS (L : Lim) (s : Mk) (l : List (List Int)) : Prop where
  b : s.b = l.flatten
  ok : ∀ x ∈ l, InsOk L x
  jo : ∀ x ∈ l, jumpO (arg x 0) → ∃ p : Nat, tgt x = p ∧ IsStart l p
  la : ∀ p ∈ s.later, IsHole l p.1 ∧ IsStart l p.2
def Pre (l m : List (List Int)) : Prop := ∃ k, m = l ++ k
theorem Pre.refl (l : List (List Int)) : Pre l l := ⟨[], by simp⟩
theorem Pre.trans {a b c : List (List Int)} (h : Pre a b) (k : Pre b c) : Pre a c := by obtain ⟨x, rfl⟩ := h; obtain ⟨y, rfl⟩ := k; exact ⟨x ++ y, by simp⟩
theorem Pre.one (l : List (List Int)) (x : List Int) : Pre l (l ++ [x]) := ⟨[x], rfl⟩
theorem IsStart.mono {l m : List (List Int)} {p : Nat} (h : IsStart l p) (k : Pre l m) : IsStart m p := by
  obtain ⟨l1, l2, rfl, h2⟩ := h; obtain ⟨x, rfl⟩ := k; exact ⟨l1, l2 ++ x, by simp, h2⟩
theorem IsHole.mono {l m : List (List Int)} {p : Nat} (h : IsHole l p) (k : Pre l m) : IsHole m p := by
  obtain ⟨l1, y, l2, rfl, h2⟩ := h; obtain ⟨x, rfl⟩ := k; exact ⟨l1, y, l2 ++ x, by simp, h2⟩
theorem IsStart.zero (l : List (List Int)) : IsStart l 0 := ⟨[], l, rfl, rfl⟩
theorem IsStart.end_ (l : List (List Int)) : IsStart l l.flatten.length := ⟨l, [], by simp, rfl⟩
theorem u8_range (n : Int) : 0 ≤ u8 n ∧ u8 n < 256 := by
  unfold u8; simp [IntKind.wrap, IntKind.signed, IntKind.bits]; omega
theorem u8_small {n : Int} (h0 : 0 ≤ n) (h1 : n < 256) : u8 n = n := by
  unfold u8; simp [IntKind.wrap, IntKind.signed, IntKind.bits]; omega
theorem pair_wide {n : Int} (h0 : 0 ≤ n) (h1 : n < 65536) : pair (u8 (n.fdiv 256)) (u8 n) = n := by
  unfold u8 pair
  rw [Int.fdiv_eq_ediv_of_nonneg _ (by omega)]
  simp [IntKind.wrap, IntKind.signed, IntKind.bits]; omega

section
variable {L : Lim} {s : Mk} {l : List (List Int)}
theorem op_gs (h : GS L s l) {c : Int} {xs : List Int} (hi : InsOk L (c :: xs)) (hj : jumpO c → ∃ p : Nat, tgt (c :: xs) = p ∧ IsStart l p) : GS L (opM c xs s) (l ++ [c :: xs]) := by
  have hp := Pre.one l (c :: xs)
  refine ⟨by show s.b ++ c :: xs = _; rw [h.b]; simp, fun x hx => ?_, fun x hx hjx => ?_, fun p hp' => ⟨(h.la p hp').1.mono hp, (h.la p hp').2.mono hp⟩⟩
  · rcases List.mem_append.1 hx with hx | hx
    · exact h.ok x hx
    · simp at hx; subst hx; exact hi
  · rcases List.mem_append.1 hx with hx | hx
    · obtain ⟨p, h1, h2⟩ := h.jo x hx hjx; exact ⟨p, h1, h2.mono hp⟩
    · simp at hx; subst hx
      obtain ⟨p, h1, h2⟩ := hj hjx; exact ⟨p, h1, h2.mono hp⟩
theorem here_gs (h : GS L s l) {a : Nat} (ha : IsHole l a) : GS L (hereM a s) l := by
  refine ⟨h.b, h.ok, h.jo, fun p hp => ?_⟩
  rcases List.mem_append.1 hp with hp | hp
  · exact h.la p hp
  · simp at hp; subst hp
    exact ⟨ha, by rw [h.b]; exact IsStart.end_ l⟩
theorem need_gs (h : GS L s l) (o : Option Int) : GS L (needM o s) l := ⟨h.b, h.ok, h.jo, h.la⟩
theorem ahead_gs (h : GS L s l) {c : Int} {xs : List Int} (hi : InsOk L (c :: (xs ++ [0, 0]))) (hj : jumpO c) : GS L (aheadM c xs s) (l ++ [c :: (xs ++ [0, 0])]) ∧ IsHole (l ++ [c :: (xs ++ [0, 0])]) (holeM (aheadM c xs s)) := by
  refine ⟨op_gs h hi fun _ => ⟨0, ?_, IsStart.zero l⟩, l, c :: (xs ++ [0, 0]), [], rfl, hj, ?_, by simp⟩
  · unfold tgt arg pair
    simp
  · show (opM c (xs ++ [0, 0]) s).b.length - 2 + 2 = _
    simp only [opM]
    rw [h.b]
    simp
    omega
end

/-- n: how great is what is made. -/
def Good (L : Lim) (f : Em) (n : Nat) : Prop := ∀ s l, GS L s l → s.b.length + 25 * n ≤ 60000 → ∃ m, Pre l m ∧ GS L (f s) m ∧ (L.must → (f s).bad = s.bad)
theorem insOk {L : Lim} {c : Int} {xs : List Int} (h1 : szL c = some xs.length) (h2 : ∀ b ∈ c :: xs, 0 ≤ b ∧ b < 256) (h3 : ¬ (c = 1 ∨ c = 45 ∨ c = 4 ∨ c = 5 ∨ c = 32)) : InsOk L (c :: xs) :=
  ⟨by simp, h1, h2, fun e => absurd e (by show ¬ c = 1; omega), fun e => absurd e (by show ¬ c = 45; omega), fun e => absurd e (by show ¬ (c = 4 ∨ c = 5 ∨ c = 32); omega), fun e => absurd e (by show ¬ c = 32; omega)⟩
theorem insSlot {L : Lim} {c n : Int} (hc : c = 4 ∨ c = 5) (h0 : 0 ≤ n) (h1 : n < L.nS) (h2 : n < 256) : InsOk L [c, n] := by
  refine ⟨by simp, ?_, ?_, fun e => absurd e (by show ¬ c = 1; omega), fun e => absurd e (by show ¬ c = 45; omega), fun _ => h1, fun e => absurd e (by show ¬ c = 32; omega)⟩
  · rcases hc with rfl | rfl <;> rfl
  · intro b hb; simp at hb; rcases hb with rfl | rfl <;> omega
theorem insWide {L : Lim} {c n : Int} (hc : c = 1 ∧ n < L.nI ∨ c = 45 ∧ n < L.nT ∨ c = 30) (h0 : 0 ≤ n) (h1 : n < 65536) : InsOk L [c, u8 (n.fdiv 256), u8 n] := by
  have hp := pair_wide h0 h1
  refine ⟨by simp, ?_, ?_, fun e => ?_, fun e => ?_, fun e => absurd e (by show ¬ (c = 4 ∨ c = 5 ∨ c = 32); omega), fun e => absurd e (by show ¬ c = 32; omega)⟩
  · rcases hc with ⟨rfl, _⟩ | ⟨rfl, _⟩ | rfl <;> rfl
  · have a := u8_range (n.fdiv 256)
    have b := u8_range n
    intro x hx; simp at hx; rcases hx with rfl | rfl | rfl <;> omega
  · have e' : c = 1 := e
    show pair (u8 (n.fdiv 256)) (u8 n) < _
    omega
  · have e' : c = 45 := e
    show pair (u8 (n.fdiv 256)) (u8 n) < _
    omega
def PI (P : Pl) (L : Lim) (n : Int) : Prop := 0 ≤ (P.ints n).getD 0 ∧ (P.ints n).getD 0 < L.nI ∧ (P.ints n).getD 0 < 65536 ∧ (L.must → (P.ints n).isSome = true)
def PX (P : Pl) (L : Lim) (t : ByteArray) : Prop := 0 ≤ (P.texts t).getD 0 ∧ (P.texts t).getD 0 < L.nT ∧ (P.texts t).getD 0 < 65536 ∧ (L.must → (P.texts t).isSome = true)
theorem push_gs {P : Pl} {L : Lim} {s : Mk} {l : List (List Int)} (h : GS L s l) {n : Int} (hp : PI P L n) : ∃ m, Pre l m ∧ GS L (pushM P n s) m ∧ (L.must → (pushM P n s).bad = s.bad) := by
  obtain ⟨h1, h2, h3, h4⟩ := hp
  refine ⟨_, Pre.one l _, op_gs (need_gs h (P.ints n)) (insWide (.inl ⟨rfl, h2⟩) h1 h3) fun e => absurd e (by unfold jumpO; omega), fun hm => ?_⟩
  show (s.bad || !(P.ints n).isSome) = s.bad
  rw [h4 hm]; simp
theorem jump_gs {L : Lim} {s : Mk} {l : List (List Int)} (h : GS L s l) {top : Nat} (ht : IsStart l top) (h1 : top < 65536) : ∃ m, Pre l m ∧ GS L (wideM 30 top s) m ∧ (L.must → (wideM 30 top s).bad = s.bad) :=
  ⟨_, Pre.one l _, op_gs h (insWide (.inr (.inr rfl)) (by omega) (by omega)) fun _ => ⟨top, pair_wide (by omega) (by omega), ht⟩, fun _ => rfl⟩
theorem slot_gs {L : Lim} {s : Mk} {l : List (List Int)} (h : GS L s l) {c n : Int} (hc : c = 4 ∨ c = 5) (h0 : 0 ≤ n) (h1 : n < L.nS) (h2 : n < 256) : ∃ m, Pre l m ∧ GS L (opM c [n] s) m ∧ (L.must → (opM c [n] s).bad = s.bad) :=
  ⟨_, Pre.one l _, op_gs h (insSlot hc h0 h1 h2) fun e => absurd e (by unfold jumpO; omega), fun _ => rfl⟩
theorem plain_gs {L : Lim} {s : Mk} {l : List (List Int)} (h : GS L s l) {c : Int} {xs : List Int} (h1 : szL c = some xs.length) (h2 : ∀ b ∈ c :: xs, 0 ≤ b ∧ b < 256) (h3 : ¬ (c = 1 ∨ c = 45 ∨ c = 4 ∨ c = 5 ∨ c = 32)) (hj : ¬ jumpO c) :
    ∃ m, Pre l m ∧ GS L (opM c xs s) m ∧ (L.must → (opM c xs s).bad = s.bad) := ⟨_, Pre.one l _, op_gs h (insOk h1 h2 h3) fun e => absurd e hj, fun _ => rfl⟩
theorem hole_gs {L : Lim} {s : Mk} {l : List (List Int)} (h : GS L s l) {c : Int} (hc : c = 30 ∨ c = 31 ∨ c = 33) : ∃ m, Pre l m ∧ GS L (aheadM c [] s) m ∧ IsHole m (holeM (aheadM c [] s)) ∧ (L.must → (aheadM c [] s).bad = s.bad) := by
  obtain ⟨h1, h2⟩ := ahead_gs h (c := c) (xs := []) (insOk (by rcases hc with rfl | rfl | rfl <;> rfl) (by intro b hb; simp at hb; rcases hb with rfl | rfl <;> omega) (by omega)) (by unfold jumpO; omega)
  exact ⟨_, Pre.one l _, h1, h2, fun _ => rfl⟩
theorem seq_good {L : Lim} {sub : List Em} {ns : List Nat} (hg : All2 Gr sub ns) (h : All2 (Good L) sub ns) : Good L (seqM sub) ns.sum := by
  induction h with
  | nil => intro s l hs _; exact ⟨l, Pre.refl l, hs, fun _ => rfl⟩
  | @cons f n fs ns h0 _ ih =>
    intro s l hs hb
    cases hg with
    | cons g0 g1 =>
      have a := g0 s
      simp only [List.sum_cons] at hb
      obtain ⟨m, p1, h1, b1⟩ := h0 s l hs (by omega)
      obtain ⟨m2, p2, h2, b2⟩ := ih g1 (f s) m h1 (by omega)
      exact ⟨m2, p1.trans p2, h2, fun hm => (b2 hm).trans (b1 hm)⟩

/-- What the pools grant of a node. -/
def NodeP (P : Pl) (L : Lim) (x : Nd) : Prop := (x.op = 30 → PI P L x.n) ∧ (x.op = 14 → PI P L 0 ∧ PI P L 1 ∧ PI P L x.n) ∧ (x.op = 15 → PI P L 0 ∧ PI P L 1) ∧ (x.op = 52 → PX P L x.text)

theorem getD_nthM {l : List Em} {j : Nat} (h : ¬ j < l.length) : nthM l j = id := by unfold nthM; rw [List.getElem?_eq_none (by omega)]; rfl

theorem callC_ok {n : Int} (h0 : 0 ≤ n) (h9 : n < 9) (h1 : n ≠ 1) (h5 : n ≠ 5) : szL (callC n) = some 0 ∧ (0 ≤ callC n ∧ callC n < 256) ∧ ¬ (callC n = 1 ∨ callC n = 45 ∨ callC n = 4 ∨ callC n = 5 ∨ callC n = 32) := by
  obtain ⟨m, rfl⟩ : ∃ m : Nat, n = m := ⟨n.toNat, by omega⟩
  have : m = 0 ∨ m = 2 ∨ m = 3 ∨ m = 4 ∨ m = 6 ∨ m = 7 ∨ m = 8 := by omega
  rcases this with rfl | rfl | rfl | rfl | rfl | rfl | rfl <;> decide
theorem callC_nj {n : Int} (h0 : 0 ≤ n) (h9 : n < 9) (h1 : n ≠ 1) (h5 : n ≠ 5) : callC n ≠ 30 ∧ callC n ≠ 31 ∧ callC n ≠ 32 ∧ callC n ≠ 33 := by
  obtain ⟨m, rfl⟩ : ∃ m : Nat, n = m := ⟨n.toNat, by omega⟩
  have : m = 0 ∨ m = 2 ∨ m = 3 ∨ m = 4 ∨ m = 6 ∨ m = 7 ∨ m = 8 := by omega
  rcases this with rfl | rfl | rfl | rfl | rfl | rfl | rfl <;> decide
theorem plainC_ok {op c : Int} (h : plainC op = some c) : szL c = some 0 ∧ (0 ≤ c ∧ c < 256) ∧ ¬ (c = 1 ∨ c = 45 ∨ c = 4 ∨ c = 5 ∨ c = 32 ∨ c = 30 ∨ c = 31 ∨ c = 33) := by
  have : c = 19 ∨ c = 20 ∨ c = 21 ∨ c = 22 ∨ c = 10 ∨ c = 11 ∨ c = 12 ∨ c = 13 ∨ c = 14 ∨ c = 23 ∨ c = 15 ∨ c = 2 ∨ c = 3 ∨ c = 34 ∨ c = 35 := by
    unfold plainC at h
    by_cases c40 : op = 40
    · rw [if_pos c40] at h; injection h with h; omega
    rw [if_neg c40] at h
    by_cases c41 : op = 41
    · rw [if_pos c41] at h; injection h with h; omega
    rw [if_neg c41] at h
    by_cases c42 : op = 42
    · rw [if_pos c42] at h; injection h with h; omega
    rw [if_neg c42] at h
    by_cases c43 : op = 43
    · rw [if_pos c43] at h; injection h with h; omega
    rw [if_neg c43] at h
    by_cases c44 : op = 44
    · rw [if_pos c44] at h; injection h with h; omega
    rw [if_neg c44] at h
    by_cases c45 : op = 45
    · rw [if_pos c45] at h; injection h with h; omega
    rw [if_neg c45] at h
    by_cases c46 : op = 46
    · rw [if_pos c46] at h; injection h with h; omega
    rw [if_neg c46] at h
    by_cases c47 : op = 47
    · rw [if_pos c47] at h; injection h with h; omega
    rw [if_neg c47] at h
    by_cases c48 : op = 48
    · rw [if_pos c48] at h; injection h with h; omega
    rw [if_neg c48] at h
    by_cases c34 : op = 34
    · rw [if_pos c34] at h; injection h with h; omega
    rw [if_neg c34] at h
    by_cases c35 : op = 35
    · rw [if_pos c35] at h; injection h with h; omega
    rw [if_neg c35] at h
    by_cases c31 : op = 31
    · rw [if_pos c31] at h; injection h with h; omega
    rw [if_neg c31] at h
    by_cases c32 : op = 32
    · rw [if_pos c32] at h; injection h with h; omega
    rw [if_neg c32] at h
    by_cases c17 : op = 17
    · rw [if_pos c17] at h; injection h with h; omega
    rw [if_neg c17] at h
    by_cases c18 : op = 18
    · rw [if_pos c18] at h; injection h with h; omega
    rw [if_neg c18] at h
    cases h
  rcases this with rfl | rfl | rfl | rfl | rfl | rfl | rfl | rfl | rfl | rfl | rfl | rfl | rfl | rfl | rfl <;> decide

section
variable {P : Pl} {L : Lim} {x : Nd} {ks : Fo}

theorem all_good (hG : ∀ j, AtP (goods L.nS ks) j → Good L (nthM (ems P ks) j) (((szs ks)[j]?).getD 0)) (h : ∀ p ∈ goods L.nS ks, p) : All2 (Good L) (ems P ks) (szs ks) := by
  have hg := ems_gr P ks
  have key : ∀ (l : List Em) (m : List Nat), l.length = m.length → (∀ (j : Nat) a b, l[j]? = some a → m[j]? = some b → Good L a b) → All2 (Good L) l m := by
    intro l
    induction l with
    | nil => intro m hm _; cases m with
      | nil => exact .nil
      | cons => simp at hm
    | cons a l ih =>
      intro m hm hh
      cases m with
      | nil => simp at hm
      | cons b m => exact .cons (hh 0 a b rfl rfl) (ih m (by simpa using hm) fun j a b h1 h2 => hh (j + 1) a b (by simpa using h1) (by simpa using h2))
  refine key _ _ hg.len fun j a b h1 h2 => ?_
  have hj : j < (goods L.nS ks).length := by
    have := (List.getElem?_eq_some_iff.1 h1).1
    rw [ems_length] at this; rw [goods_length]; exact this
  have := hG j (all_atP h hj)
  unfold nthM at this
  rw [h1, h2] at this
  exact this

set_option maxHeartbeats 2000000 in
theorem step_good (hS : L.nS ≤ 200) (hG : ∀ j, AtP (goods L.nS ks) j → Good L (nthM (ems P ks) j) (((szs ks)[j]?).getD 0))
    (hw : wfStep x ks.heads (goods L.nS ks)) (hloc : locB L.nS x ks.heads) (hp : NodeP P L x) (hp1 : ∀ y : Nd, ks.heads[1]? = some y → NodeP P L y) : Good L (emStep P x ks.heads (ems P ks)) (1 + ks.size) := by
  have hg := ems_gr P ks
  have h3 := three_le (szs ks)
  rw [szs_sum] at h3
  generalize ha0 : ((szs ks)[0]?).getD 0 = n0 at *
  generalize ha1 : ((szs ks)[1]?).getD 0 = n1 at *
  generalize ha2 : ((szs ks)[2]?).getD 0 = n2 at *
  have hgl := goods_length L.nS ks
  have hel := ems_length P ks
  obtain ⟨l33, l14, l15, l50⟩ := hloc
  obtain ⟨q30, q14, q15, q52⟩ := hp
  intro s l h hb
  have hseq : (∀ p ∈ goods L.nS ks, p) → ∀ (s' : Mk) m, GS L s' m → s'.b.length + 25 * ks.size ≤ 60000 → ∃ m', Pre m m' ∧ GS L (seqM (ems P ks) s') m' ∧ (L.must → (seqM (ems P ks) s').bad = s'.bad) := fun ha s' m hs' hb' => by
    have := seq_good hg (all_good hG ha) s' m hs'
    rw [szs_sum] at this
    exact this hb'
  have hsg := fun s' => seq_gr hg s'
  rw [szs_sum] at hsg
  unfold wfStep at hw
  dsimp only at hw
  obtain ⟨s', hs'⟩ : ∃ s', s' = emStep P x ks.heads (ems P ks) s := ⟨_, rfl⟩
  rw [← hs']
  unfold emStep at hs'
  by_cases o10 : x.op = 10
  · rw [if_pos o10] at hs'; subst hs'
    rw [if_pos (by omega)] at hw
    exact hseq hw s l h (by omega)
  rw [if_neg o10] at hs'
  by_cases o30 : x.op = 30
  · rw [if_pos o30] at hs'; subst hs'
    exact push_gs h (q30 o30)
  rw [if_neg o30] at hs'
  by_cases o33 : x.op = 33
  · rw [if_pos o33] at hs'; subst hs'
    have := l33 (.inl o33)
    rw [u8_small (by omega) (by omega)]
    exact slot_gs h (.inl rfl) this.1 this.2 (by omega)
  rw [if_neg o33] at hs'
  by_cases o36 : x.op = 36
  · rw [if_pos o36] at hs'
    rw [if_neg (by omega), if_neg (by omega), if_pos (by omega)] at hw
    unfold orM at hs'; dsimp only at hs'
    obtain ⟨m1, p1, g1, b1⟩ := (hG 0 hw.1) s l h (by omega)
    have a1 := nth_gr hg 0 s
    rw [ha0] at a1
    generalize nthM (ems P ks) 0 s = s1 at *
    obtain ⟨m2, p2, g2, k2, b2⟩ := hole_gs g1 (c := 31) (by omega)
    have a2 := len_ahead 31 [] s1
    generalize aheadM 31 [] s1 = s2 at *
    obtain ⟨m3, p3, g3, b3⟩ := plain_gs g2 (c := 2) (xs := []) rfl (by intro b hb; simp at hb; omega) (by omega) (by unfold jumpO; omega)
    have a3 := len_op 2 [] s2
    generalize opM 2 [] s2 = s3 at *
    obtain ⟨m4, p4, g4, k4, b4⟩ := hole_gs g3 (c := 30) (by omega)
    have a4 := len_ahead 30 [] s3
    generalize aheadM 30 [] s3 = s4 at *
    have g5 := here_gs g4 (k2.mono (p3.trans p4))
    have a5 := len_here (holeM s2) s4
    have b5 : L.must → (hereM (holeM s2) s4).bad = s4.bad := fun _ => rfl
    generalize hereM (holeM s2) s4 = s5 at *
    simp only [List.length_nil] at a2 a3 a4
    obtain ⟨m6, p6, g6, b6⟩ := (hG 1 hw.2) s5 m4 g5 (by rw [ha1]; omega)
    generalize nthM (ems P ks) 1 s5 = s6 at *
    have g7 := here_gs g6 (k4.mono p6)
    subst hs'
    exact ⟨m6, (((p1.trans p2).trans p3).trans p4).trans p6, g7, fun hm => by show s6.bad = _; rw [b6 hm, b5 hm, b4 hm, b3 hm, b2 hm, b1 hm]⟩
  rw [if_neg o36] at hs'
  by_cases o37 : x.op = 37
  · rw [if_pos o37] at hs'
    rw [if_neg (by omega), if_neg (by omega), if_pos (by omega)] at hw
    unfold andM at hs'; dsimp only at hs'
    obtain ⟨m1, p1, g1, b1⟩ := (hG 0 hw.1) s l h (by first | omega | (rw [ha0]; omega))
    have a1 := nth_gr hg 0 s
    rw [ha0] at a1
    generalize nthM (ems P ks) 0 s = s1 at *
    obtain ⟨m2, p2, g2, k2, b2⟩ := hole_gs g1 (c := 31) (by omega)
    have a2 := len_ahead 31 [] s1
    simp only [List.length_nil] at a2
    generalize aheadM 31 [] s1 = s2 at *
    obtain ⟨m3, p3, g3, b3⟩ := (hG 1 hw.2) s2 m2 g2 (by first | omega | (rw [ha1]; omega))
    have a3 := nth_gr hg 1 s2
    rw [ha1] at a3
    generalize nthM (ems P ks) 1 s2 = s3 at *
    obtain ⟨m4, p4, g4, k4, b4⟩ := hole_gs g3 (c := 30) (by omega)
    have a4 := len_ahead 30 [] s3
    simp only [List.length_nil] at a4
    generalize aheadM 30 [] s3 = s4 at *
    have g5 := here_gs g4 (k2.mono (p3.trans p4))
    have a5 := len_here (holeM s2) s4
    have b5 : L.must → (hereM (holeM s2) s4).bad = s4.bad := fun _ => rfl
    generalize hereM (holeM s2) s4 = s5 at *
    obtain ⟨m5, p5, e5⟩ : ∃ m, Pre m4 m ∧ m = m4 := ⟨_, Pre.refl _, rfl⟩
    rw [← e5] at g5
    obtain ⟨m6, p6, g6, b6⟩ := plain_gs g5 (c := 3) (xs := []) (rfl) (by intro b hb; simp at hb; omega) (by omega) (by unfold jumpO; omega)
    have a6 := len_op (3) [] s5
    simp only [List.length_nil, List.length_cons] at a6
    generalize opM (3) [] s5 = s6 at *
    have g7 := here_gs g6 (k4.mono (p5.trans p6))
    have a7 := len_here (holeM s4) s6
    have b7 : L.must → (hereM (holeM s4) s6).bad = s6.bad := fun _ => rfl
    generalize hereM (holeM s4) s6 = s7 at *
    obtain ⟨m7, p7, e7⟩ : ∃ m, Pre m6 m ∧ m = m6 := ⟨_, Pre.refl _, rfl⟩
    rw [← e7] at g7
    subst hs'
    exact ⟨m7, ((((((p1.trans p2).trans p3).trans p4).trans p5).trans p6).trans p7), g7, fun hm => by rw [b7 hm, b6 hm, b5 hm, b4 hm, b3 hm, b2 hm, b1 hm]⟩
  rw [if_neg o37] at hs'
  by_cases o38 : x.op = 38 ∨ x.op = 39
  · rw [if_pos o38] at hs'
    rw [if_neg (by omega), if_neg (by omega), if_neg (by omega), if_pos (by omega)] at hw
    unfold equalM at hs'; dsimp only at hs'
    obtain ⟨m1, p1, g1, b1⟩ := hseq hw.1 s l h (by omega)
    have a1 := hsg s
    generalize seqM (ems P ks) s = s1 at *
    obtain ⟨m2, p2, g2, b2⟩ := plain_gs g1 (c := 24) (xs := [u8 ((ks.heads[0]?).getD default).kind]) (rfl) (by intro b hb; have := u8_range ((ks.heads[0]?).getD default).kind; simp at hb; rcases hb with rfl | rfl <;> omega) (by omega) (by unfold jumpO; omega)
    have a2 := len_op (24) [u8 ((ks.heads[0]?).getD default).kind] s1
    simp only [List.length_nil, List.length_cons] at a2
    generalize opM (24) [u8 ((ks.heads[0]?).getD default).kind] s1 = s2 at *
    split at hs'
    · obtain ⟨m3, p3, g3, b3⟩ := plain_gs g2 (c := 23) (xs := []) (rfl) (by intro b hb; simp at hb; omega) (by omega) (by unfold jumpO; omega)
      have a3 := len_op (23) [] s2
      simp only [List.length_nil, List.length_cons] at a3
      generalize opM (23) [] s2 = s3 at *
      subst hs'
      exact ⟨m3, ((p1.trans p2).trans p3), g3, fun hm => by rw [b3 hm, b2 hm, b1 hm]⟩
    · subst hs'
      exact ⟨m2, (p1.trans p2), g2, fun hm => by rw [b2 hm, b1 hm]⟩
  rw [if_neg o38] at hs'
  by_cases o50 : x.op = 50
  · rw [if_pos o50] at hs'
    rw [if_neg (by omega), if_neg (by omega), if_neg (by omega), if_neg (by omega), if_pos (by omega)] at hw
    unfold callM at hs'
    by_cases c1 : x.n = 1
    · rw [if_pos c1] at hs'
      rw [if_pos (.inl c1)] at hw
      obtain ⟨m1, p1, g1, b1⟩ := (hG 0 hw.1) s l h (by first | omega | (rw [ha0]; omega))
      have a1 := nth_gr hg 0 s
      rw [ha0] at a1
      generalize nthM (ems P ks) 0 s = s1 at *
      obtain ⟨m2, p2, g2, b2⟩ := plain_gs g1 (c := 41) (xs := [u8 ((ks.heads[1]?).getD default).n]) (rfl) (by intro b hb; have := u8_range ((ks.heads[1]?).getD default).n; simp at hb; rcases hb with rfl | rfl <;> omega) (by omega) (by unfold jumpO; omega)
      have a2 := len_op (41) [u8 ((ks.heads[1]?).getD default).n] s1
      simp only [List.length_nil, List.length_cons] at a2
      generalize opM (41) [u8 ((ks.heads[1]?).getD default).n] s1 = s2 at *
      subst hs'
      exact ⟨m2, (p1.trans p2), g2, fun hm => by rw [b2 hm, b1 hm]⟩
    rw [if_neg c1] at hs'
    by_cases c5 : x.n = 5
    · rw [if_pos c5] at hs'
      rw [if_pos (.inr c5)] at hw
      obtain ⟨y, hy, hyo⟩ := l50 o50 c5
      obtain ⟨t1, t2, t3, t4⟩ := (hp1 y hy).2.2.2 hyo
      rw [hy] at hs'
      simp only [Option.getD_some] at hs'
      have hsome := t4
      obtain ⟨m1, p1, g1, b1⟩ := (hG 0 hw.1) s l h (by first | omega | (rw [ha0]; omega))
      have a1 := nth_gr hg 0 s
      rw [ha0] at a1
      generalize nthM (ems P ks) 0 s = s1 at *
      have g2 := need_gs g1 (P.texts y.text)
      have a2 := len_need (P.texts y.text) s1
      have b2 : L.must → (needM (P.texts y.text) s1).bad = s1.bad := fun hm => by show (s1.bad || !(P.texts y.text).isSome) = _; rw [hsome hm]; simp
      generalize needM (P.texts y.text) s1 = s2 at *
      obtain ⟨m2, p2, e2⟩ : ∃ m, Pre m1 m ∧ m = m1 := ⟨_, Pre.refl _, rfl⟩
      rw [← e2] at g2
      subst hs'
      exact ⟨_, (p1.trans p2).trans (Pre.one m2 _), op_gs g2 (insWide (.inr (.inl ⟨rfl, t2⟩)) t1 t3) fun e => absurd e (by unfold jumpO; omega), fun hm => by show s2.bad = _; rw [b2 hm, b1 hm]⟩
    · rw [if_neg c5] at hs'
      rw [if_neg (by omega)] at hw
      have hcc := callC_ok hw.2.1 hw.2.2 c1 c5
      have hcj : ¬ jumpO (callC x.n) := by have := hcc.2.1; unfold jumpO; intro e; have h4 := callC_nj hw.2.1 hw.2.2 c1 c5; omega
      obtain ⟨m1, p1, g1, b1⟩ := hseq hw.1 s l h (by omega)
      have a1 := hsg s
      generalize seqM (ems P ks) s = s1 at *
      obtain ⟨m2, p2, g2, b2⟩ := plain_gs g1 (c := callC x.n) (xs := []) (hcc.1) (by intro b hb; have := hcc.2.1; simp at hb; omega) hcc.2.2 (fun e => hcj e)
      have a2 := len_op (callC x.n) [] s1
      simp only [List.length_nil, List.length_cons] at a2
      generalize opM (callC x.n) [] s1 = s2 at *
      subst hs'
      exact ⟨m2, (p1.trans p2), g2, fun hm => by rw [b2 hm, b1 hm]⟩
  rw [if_neg o50] at hs'
  by_cases o13 : x.op = 13 ∨ x.op = 16
  · rw [if_pos o13] at hs'
    rw [if_neg (by omega), if_neg (by omega), if_neg (by omega), if_neg (by omega), if_neg (by omega), if_pos (by omega)] at hw
    unfold forkM at hs'; dsimp only at hs'
    rw [hel] at hs'
    obtain ⟨m1, p1, g1, b1⟩ := (hG 0 hw.1) s l h (by first | omega | (rw [ha0]; omega))
    have a1 := nth_gr hg 0 s
    rw [ha0] at a1
    generalize nthM (ems P ks) 0 s = s1 at *
    by_cases c13 : x.op = 13
    · rw [if_pos c13, if_pos c13] at hs'
      obtain ⟨m2, p2, g2, k2, b2⟩ := hole_gs g1 (c := 31) (by omega)
      have a2 := len_ahead 31 [] s1
      simp only [List.length_nil] at a2
      generalize aheadM 31 [] s1 = s2 at *
      obtain ⟨m3, p3, g3, b3⟩ := (hG 1 hw.2.1) s2 m2 g2 (by first | omega | (rw [ha1]; omega))
      have a3 := nth_gr hg 1 s2
      rw [ha1] at a3
      generalize nthM (ems P ks) 1 s2 = s3 at *
      by_cases c3 : ks.len < 3
      · rw [if_pos c3] at hs'
        have g4 := here_gs g3 (k2.mono p3)
        have a4 := len_here (holeM s2) s3
        have b4 : L.must → (hereM (holeM s2) s3).bad = s3.bad := fun _ => rfl
        generalize hereM (holeM s2) s3 = s4 at *
        obtain ⟨m4, p4, e4⟩ : ∃ m, Pre m3 m ∧ m = m3 := ⟨_, Pre.refl _, rfl⟩
        rw [← e4] at g4
        subst hs'
        exact ⟨m4, (((p1.trans p2).trans p3).trans p4), g4, fun hm => by rw [b4 hm, b3 hm, b2 hm, b1 hm]⟩
      · rw [if_neg c3] at hs'
        obtain ⟨m4, p4, g4, k4, b4⟩ := hole_gs g3 (c := 30) (by omega)
        have a4 := len_ahead 30 [] s3
        simp only [List.length_nil] at a4
        generalize aheadM 30 [] s3 = s4 at *
        have g5 := here_gs g4 (k2.mono (p3.trans p4))
        have a5 := len_here (holeM s2) s4
        have b5 : L.must → (hereM (holeM s2) s4).bad = s4.bad := fun _ => rfl
        generalize hereM (holeM s2) s4 = s5 at *
        obtain ⟨m5, p5, e5⟩ : ∃ m, Pre m4 m ∧ m = m4 := ⟨_, Pre.refl _, rfl⟩
        rw [← e5] at g5
        obtain ⟨m6, p6, g6, b6⟩ := (hG 2 (hw.2.2 (by omega))) s5 m5 g5 (by first | omega | (rw [ha2]; omega))
        have a6 := nth_gr hg 2 s5
        rw [ha2] at a6
        generalize nthM (ems P ks) 2 s5 = s6 at *
        have g7 := here_gs g6 (k4.mono (p5.trans p6))
        have a7 := len_here (holeM s4) s6
        have b7 : L.must → (hereM (holeM s4) s6).bad = s6.bad := fun _ => rfl
        generalize hereM (holeM s4) s6 = s7 at *
        obtain ⟨m7, p7, e7⟩ : ∃ m, Pre m6 m ∧ m = m6 := ⟨_, Pre.refl _, rfl⟩
        rw [← e7] at g7
        subst hs'
        exact ⟨m7, ((((((p1.trans p2).trans p3).trans p4).trans p5).trans p6).trans p7), g7, fun hm => by rw [b7 hm, b6 hm, b5 hm, b4 hm, b3 hm, b2 hm, b1 hm]⟩
    · rw [if_neg c13, if_neg c13] at hs'
      have lx := l33 (by omega)
      rw [u8_small (by omega) (by omega)] at hs'
      obtain ⟨m2, p2, g2, k2, b2⟩ := hole_gs g1 (c := 33) (by omega)
      have a2 := len_ahead 33 [] s1
      simp only [List.length_nil] at a2
      generalize aheadM 33 [] s1 = s2 at *
      obtain ⟨m3, p3, g3, b3⟩ := slot_gs g2 (c := 5) (n := x.n) (by omega) (lx.1) (lx.2) (by omega)
      have a3 := len_op 5 [x.n] s2
      simp only [List.length_nil, List.length_cons] at a3
      generalize opM 5 [x.n] s2 = s3 at *
      obtain ⟨m4, p4, g4, b4⟩ := (hG 1 hw.2.1) s3 m3 g3 (by first | omega | (rw [ha1]; omega))
      have a4 := nth_gr hg 1 s3
      rw [ha1] at a4
      generalize nthM (ems P ks) 1 s3 = s4 at *
      by_cases c3 : ks.len < 3
      · rw [if_pos c3] at hs'
        have g5 := here_gs g4 (k2.mono (p3.trans p4))
        have a5 := len_here (holeM s2) s4
        have b5 : L.must → (hereM (holeM s2) s4).bad = s4.bad := fun _ => rfl
        generalize hereM (holeM s2) s4 = s5 at *
        obtain ⟨m5, p5, e5⟩ : ∃ m, Pre m4 m ∧ m = m4 := ⟨_, Pre.refl _, rfl⟩
        rw [← e5] at g5
        subst hs'
        exact ⟨m5, ((((p1.trans p2).trans p3).trans p4).trans p5), g5, fun hm => by rw [b5 hm, b4 hm, b3 hm, b2 hm, b1 hm]⟩
      · rw [if_neg c3] at hs'
        obtain ⟨m5, p5, g5, k5, b5⟩ := hole_gs g4 (c := 30) (by omega)
        have a5 := len_ahead 30 [] s4
        simp only [List.length_nil] at a5
        generalize aheadM 30 [] s4 = s5 at *
        have g6 := here_gs g5 (k2.mono ((p3.trans p4).trans p5))
        have a6 := len_here (holeM s2) s5
        have b6 : L.must → (hereM (holeM s2) s5).bad = s5.bad := fun _ => rfl
        generalize hereM (holeM s2) s5 = s6 at *
        obtain ⟨m6, p6, e6⟩ : ∃ m, Pre m5 m ∧ m = m5 := ⟨_, Pre.refl _, rfl⟩
        rw [← e6] at g6
        obtain ⟨m7, p7, g7, b7⟩ := (hG 2 (hw.2.2 (by omega))) s6 m6 g6 (by first | omega | (rw [ha2]; omega))
        have a7 := nth_gr hg 2 s6
        rw [ha2] at a7
        generalize nthM (ems P ks) 2 s6 = s7 at *
        have g8 := here_gs g7 (k5.mono (p6.trans p7))
        have a8 := len_here (holeM s5) s7
        have b8 : L.must → (hereM (holeM s5) s7).bad = s7.bad := fun _ => rfl
        generalize hereM (holeM s5) s7 = s8 at *
        obtain ⟨m8, p8, e8⟩ : ∃ m, Pre m7 m ∧ m = m7 := ⟨_, Pre.refl _, rfl⟩
        rw [← e8] at g8
        subst hs'
        exact ⟨m8, (((((((p1.trans p2).trans p3).trans p4).trans p5).trans p6).trans p7).trans p8), g8, fun hm => by rw [b8 hm, b7 hm, b6 hm, b5 hm, b4 hm, b3 hm, b2 hm, b1 hm]⟩
  rw [if_neg o13] at hs'
  by_cases o14 : x.op = 14
  · rw [if_pos o14] at hs'
    rw [if_pos (by omega)] at hw
    have lx := l14 o14
    obtain ⟨r0, r1, rn⟩ := q14 o14
    unfold repeatM at hs'; dsimp only at hs'
    rw [u8_small (n := x.m) (by omega) (by omega)] at hs'
    obtain ⟨m1, p1, g1, b1⟩ := push_gs h (r0)
    have a1 := len_push P 0 s
    generalize pushM P 0 s = s1 at *
    obtain ⟨m2, p2, g2, b2⟩ := slot_gs g1 (c := 5) (n := x.m) (by omega) (lx.1) (lx.2) (by omega)
    have a2 := len_op 5 [x.m] s1
    simp only [List.length_nil, List.length_cons] at a2
    generalize opM 5 [x.m] s1 = s2 at *
    obtain ⟨m3, p3, g3, b3⟩ := slot_gs g2 (c := 4) (n := x.m) (by omega) (lx.1) (lx.2) (by omega)
    have a3 := len_op 4 [x.m] s2
    simp only [List.length_nil, List.length_cons] at a3
    generalize opM 4 [x.m] s2 = s3 at *
    obtain ⟨m4, p4, g4, b4⟩ := push_gs g3 (rn)
    have a4 := len_push P x.n s3
    generalize pushM P x.n s3 = s4 at *
    obtain ⟨m5, p5, g5, b5⟩ := plain_gs g4 (c := 19) (xs := []) (rfl) (by intro b hb; simp at hb; omega) (by omega) (by unfold jumpO; omega)
    have a5 := len_op (19) [] s4
    simp only [List.length_nil, List.length_cons] at a5
    generalize opM (19) [] s4 = s5 at *
    obtain ⟨m6, p6, g6, k6, b6⟩ := hole_gs g5 (c := 31) (by omega)
    have a6 := len_ahead 31 [] s5
    simp only [List.length_nil] at a6
    generalize aheadM 31 [] s5 = s6 at *
    obtain ⟨m7, p7, g7, b7⟩ := hseq hw s6 m6 g6 (by omega)
    have a7 := hsg s6
    generalize seqM (ems P ks) s6 = s7 at *
    obtain ⟨m8, p8, g8, b8⟩ := slot_gs g7 (c := 4) (n := x.m) (by omega) (lx.1) (lx.2) (by omega)
    have a8 := len_op 4 [x.m] s7
    simp only [List.length_nil, List.length_cons] at a8
    generalize opM 4 [x.m] s7 = s8 at *
    obtain ⟨m9, p9, g9, b9⟩ := push_gs g8 (r1)
    have a9 := len_push P 1 s8
    generalize pushM P 1 s8 = s9 at *
    obtain ⟨m10, p10, g10, b10⟩ := plain_gs g9 (c := 10) (xs := []) (rfl) (by intro b hb; simp at hb; omega) (by omega) (by unfold jumpO; omega)
    have a10 := len_op (10) [] s9
    simp only [List.length_nil, List.length_cons] at a10
    generalize opM (10) [] s9 = s10 at *
    obtain ⟨m11, p11, g11, b11⟩ := slot_gs g10 (c := 5) (n := x.m) (by omega) (lx.1) (lx.2) (by omega)
    have a11 := len_op 5 [x.m] s10
    simp only [List.length_nil, List.length_cons] at a11
    generalize opM 5 [x.m] s10 = s11 at *
    have tj : IsStart m11 s2.b.length := by have := IsStart.end_ m2; rw [← g2.b] at this; exact this.mono ((((((((p3.trans p4).trans p5).trans p6).trans p7).trans p8).trans p9).trans p10).trans p11)
    obtain ⟨m12, p12, g12, b12⟩ := jump_gs g11 tj (by omega)
    have a12 := len_wide 30 s2.b.length s11
    generalize wideM 30 s2.b.length s11 = s12 at *
    have g13 := here_gs g12 (k6.mono (((((p7.trans p8).trans p9).trans p10).trans p11).trans p12))
    have a13 := len_here (holeM s6) s12
    have b13 : L.must → (hereM (holeM s6) s12).bad = s12.bad := fun _ => rfl
    generalize hereM (holeM s6) s12 = s13 at *
    obtain ⟨m13, p13, e13⟩ : ∃ m, Pre m12 m ∧ m = m12 := ⟨_, Pre.refl _, rfl⟩
    rw [← e13] at g13
    subst hs'
    exact ⟨m13, ((((((((((((p1.trans p2).trans p3).trans p4).trans p5).trans p6).trans p7).trans p8).trans p9).trans p10).trans p11).trans p12).trans p13), g13, fun hm => by rw [b13 hm, b12 hm, b11 hm, b10 hm, b9 hm, b8 hm, b7 hm, b6 hm, b5 hm, b4 hm, b3 hm, b2 hm, b1 hm]⟩
  rw [if_neg o14] at hs'
  by_cases o15 : x.op = 15
  · rw [if_pos o15] at hs'
    rw [if_neg (by omega), if_neg (by omega), if_neg (by omega), if_neg (by omega), if_neg (by omega), if_neg (by omega), if_pos (by omega)] at hw
    have lx := l15 o15
    have lm := lx.2.2 hS
    obtain ⟨r0, r1⟩ := q15 o15
    have hsome := r1.2.2.2
    unfold eachM at hs'; dsimp only at hs'
    rw [lm, u8_small (n := x.n + 1 + 1) (by omega) (by omega), u8_small (n := x.n) (by omega) (by omega)] at hs'
    have g1 := need_gs h (P.ints 1)
    have a1 := len_need (P.ints 1) s
    have b1 : L.must → (needM (P.ints 1) s).bad = s.bad := fun hm => by show (s.bad || !(P.ints 1).isSome) = _; rw [hsome hm]; simp
    generalize needM (P.ints 1) s = s1 at *
    obtain ⟨m1, p1, e1⟩ : ∃ m, Pre l m ∧ m = l := ⟨_, Pre.refl _, rfl⟩
    rw [← e1] at g1
    obtain ⟨m2, p2, g2, b2⟩ := (hG 0 hw.1) s1 m1 g1 (by first | omega | (rw [ha0]; omega))
    have a2 := nth_gr hg 0 s1
    rw [ha0] at a2
    generalize nthM (ems P ks) 0 s1 = s2 at *
    obtain ⟨m3, p3, g3, b3⟩ := slot_gs g2 (c := 5) (n := x.n + 1) (by omega) (by omega) (by omega) (by omega)
    have a3 := len_op 5 [x.n + 1] s2
    simp only [List.length_nil, List.length_cons] at a3
    generalize opM 5 [x.n + 1] s2 = s3 at *
    obtain ⟨m4, p4, g4, b4⟩ := push_gs g3 (r0)
    have a4 := len_push P 0 s3
    generalize pushM P 0 s3 = s4 at *
    obtain ⟨m5, p5, g5, b5⟩ := slot_gs g4 (c := 5) (n := x.n + 1 + 1) (by omega) (by omega) (by omega) (by omega)
    have a5 := len_op 5 [x.n + 1 + 1] s4
    simp only [List.length_nil, List.length_cons] at a5
    generalize opM 5 [x.n + 1 + 1] s4 = s5 at *
    obtain ⟨g6, k6⟩ := ahead_gs g5 (c := 32) (xs := [x.n + 1, x.n + 1 + 1]) ⟨by simp, rfl, by intro b hb; simp at hb; rcases hb with rfl | rfl | rfl | rfl <;> omega, fun e => absurd e (by show ¬ (32 : Int) = 1; omega), fun e => absurd e (by show ¬ (32 : Int) = 45; omega), fun _ => (by show x.n + 1 < _; omega), fun _ => (by show x.n + 1 + 1 < _; omega)⟩ (by unfold jumpO; omega)
    have p6 := Pre.one m5 (32 :: ([x.n + 1, x.n + 1 + 1] ++ [0, 0]))
    generalize m5 ++ [32 :: ([x.n + 1, x.n + 1 + 1] ++ [0, 0])] = m6 at *
    have a6 := len_ahead 32 [x.n + 1, x.n + 1 + 1] s5
    simp only [List.length_nil, List.length_cons] at a6
    have b6 : L.must → (aheadM 32 [x.n + 1, x.n + 1 + 1] s5).bad = s5.bad := fun _ => rfl
    generalize aheadM 32 [x.n + 1, x.n + 1 + 1] s5 = s6 at *
    obtain ⟨m7, p7, g7, b7⟩ := slot_gs g6 (c := 5) (n := x.n) (by omega) (by omega) (by omega) (by omega)
    have a7 := len_op 5 [x.n] s6
    simp only [List.length_nil, List.length_cons] at a7
    generalize opM 5 [x.n] s6 = s7 at *
    obtain ⟨m8, p8, g8, b8⟩ := (hG 1 hw.2) s7 m7 g7 (by first | omega | (rw [ha1]; omega))
    have a8 := nth_gr hg 1 s7
    rw [ha1] at a8
    generalize nthM (ems P ks) 1 s7 = s8 at *
    have tj : IsStart m8 s5.b.length := by have := IsStart.end_ m5; rw [← g5.b] at this; exact this.mono ((p6.trans p7).trans p8)
    obtain ⟨m9, p9, g9, b9⟩ := jump_gs g8 tj (by omega)
    have a9 := len_wide 30 s5.b.length s8
    generalize wideM 30 s5.b.length s8 = s9 at *
    have g10 := here_gs g9 (k6.mono ((p7.trans p8).trans p9))
    have a10 := len_here (holeM s6) s9
    have b10 : L.must → (hereM (holeM s6) s9).bad = s9.bad := fun _ => rfl
    generalize hereM (holeM s6) s9 = s10 at *
    obtain ⟨m10, p10, e10⟩ : ∃ m, Pre m9 m ∧ m = m9 := ⟨_, Pre.refl _, rfl⟩
    rw [← e10] at g10
    subst hs'
    exact ⟨m10, (((((((((p1.trans p2).trans p3).trans p4).trans p5).trans p6).trans p7).trans p8).trans p9).trans p10), g10, fun hm => by rw [b10 hm, b9 hm, b8 hm, b7 hm, b6 hm, b5 hm, b4 hm, b3 hm, b2 hm, b1 hm]⟩
  rw [if_neg o15] at hs'
  by_cases o49 : x.op = 49
  · rw [if_pos o49] at hs'
    rw [if_pos (by omega)] at hw
    obtain ⟨m1, p1, g1, b1⟩ := hseq hw s l h (by omega)
    have a1 := hsg s
    generalize seqM (ems P ks) s = s1 at *
    obtain ⟨m2, p2, g2, b2⟩ := plain_gs g1 (c := 46) (xs := [u8 x.n]) (rfl) (by intro b hb; have := u8_range x.n; simp at hb; rcases hb with rfl | rfl <;> omega) (by omega) (by unfold jumpO; omega)
    have a2 := len_op (46) [u8 x.n] s1
    simp only [List.length_nil, List.length_cons] at a2
    generalize opM (46) [u8 x.n] s1 = s2 at *
    subst hs'
    exact ⟨m2, (p1.trans p2), g2, fun hm => by rw [b2 hm, b1 hm]⟩
  rw [if_neg o49] at hs'
  by_cases o19 : x.op = 19
  · rw [if_pos o19] at hs'
    rw [if_pos (by omega)] at hw
    obtain ⟨m1, p1, g1, b1⟩ := hseq hw s l h (by omega)
    have a1 := hsg s
    generalize seqM (ems P ks) s = s1 at *
    obtain ⟨m2, p2, g2, b2⟩ := plain_gs g1 (c := 60) (xs := [u8 x.n]) (rfl) (by intro b hb; have := u8_range x.n; simp at hb; rcases hb with rfl | rfl <;> omega) (by omega) (by unfold jumpO; omega)
    have a2 := len_op (60) [u8 x.n] s1
    simp only [List.length_nil, List.length_cons] at a2
    generalize opM (60) [u8 x.n] s1 = s2 at *
    subst hs'
    exact ⟨m2, (p1.trans p2), g2, fun hm => by rw [b2 hm, b1 hm]⟩
  rw [if_neg o19] at hs'
  by_cases o11 : x.op = 11 ∨ x.op = 12
  · rw [if_pos o11] at hs'
    rw [if_pos (by omega)] at hw
    have lx := l33 (by omega)
    rw [u8_small (by omega) (by omega)] at hs'
    obtain ⟨m1, p1, g1, b1⟩ := hseq hw s l h (by omega)
    have a1 := hsg s
    generalize seqM (ems P ks) s = s1 at *
    obtain ⟨m2, p2, g2, b2⟩ := slot_gs g1 (c := 5) (n := x.n) (by omega) (lx.1) (lx.2) (by omega)
    have a2 := len_op 5 [x.n] s1
    simp only [List.length_nil, List.length_cons] at a2
    generalize opM 5 [x.n] s1 = s2 at *
    subst hs'
    exact ⟨m2, (p1.trans p2), g2, fun hm => by rw [b2 hm, b1 hm]⟩
  rw [if_neg o11] at hs'
  rw [if_neg (by omega), if_neg (by omega), if_neg (by omega), if_neg (by omega), if_neg (by omega), if_neg (by omega), if_neg (by omega)] at hw
  obtain ⟨hc, hw⟩ := hw
  obtain ⟨c, hc⟩ := Option.isSome_iff_exists.1 hc
  rw [hc] at hs'
  dsimp only at hs'
  obtain ⟨hc1, hc2, hc3⟩ := plainC_ok hc
  obtain ⟨m1, p1, g1, b1⟩ := hseq hw s l h (by omega)
  have a1 := hsg s
  generalize seqM (ems P ks) s = s1 at *
  obtain ⟨m2, p2, g2, b2⟩ := plain_gs g1 (c := c) (xs := []) (hc1) (by intro b hb; simp at hb; omega) (by omega) (by unfold jumpO; omega)
  have a2 := len_op (c) [] s1
  simp only [List.length_nil, List.length_cons] at a2
  generalize opM (c) [] s1 = s2 at *
  subst hs'
  exact ⟨m2, (p1.trans p2), g2, fun hm => by rw [b2 hm, b1 hm]⟩

def allN (p : Nd → Prop) : Fo → Prop
  | .nil => True
  | .cons x ks r => p x ∧ allN p ks ∧ allN p r
theorem allN_heads {p : Nd → Prop} : ∀ {f : Fo}, allN p f → ∀ y ∈ f.heads, p y
  | .nil, _, y, h => by simp [Fo.heads] at h
  | .cons x ks r, h, y, hy => by
    simp only [Fo.heads, List.mem_cons] at hy
    rcases hy with rfl | hy
    · exact h.1
    · exact allN_heads h.2.2 y hy
theorem allN_fo {t : List Nd} {p : Nd → Prop} (h : ∀ x ∈ t, p x) : ∀ {f : Fo} {i : Nat}, FoAt t i f → allN p f
  | .nil, _, _ => trivial
  | .cons x ks r, i, hf => ⟨h x (List.mem_of_getElem? hf.1), allN_fo h hf.2.2.1, allN_fo h hf.2.2.2⟩
end
theorem tree_good {P : Pl} {L : Lim} (hS : L.nS ≤ 200) : ∀ (f : Fo), allN (NodeP P L) f → ∀ j, AtP (goods L.nS f) j → Good L (nthM (ems P f) j) (((szs f)[j]?).getD 0)
  | .nil, _, j, h => by obtain ⟨p, h1, _⟩ := h; simp [goods] at h1
  | .cons x ks r, hN, 0, h => by
    obtain ⟨p, h1, h2⟩ := h
    simp only [goods, List.getElem?_cons_zero, Option.some.injEq] at h1; subst h1
    exact step_good hS (tree_good hS ks hN.2.1) h2.1 h2.2 hN.1 fun y hy => allN_heads hN.2.1 y (List.mem_of_getElem? hy)
  | .cons x ks r, hN, j + 1, h => by
    have := tree_good hS r hN.2.2 j (by obtain ⟨p, h1, h2⟩ := h; exact ⟨p, by simpa [goods] using h1, h2⟩)
    simpa [nthM, ems, szs] using this

/-- What is made of a checked ability. -/
theorem pre_gs {P : Pl} {L : Lim} {a : Ab} {f : Fo} (ha : AbleP a f) (hS : L.nS = a.slots.length) (hN : ∀ x ∈ a.tree, NodeP P L x) : ∃ m, GS L (pre0 P a.when f) m ∧ (L.must → (pre0 P a.when f).bad = false) ∧ (made0 P a.when f).b.length ≤ 25 * a.tree.length + 4 := by
  have h32 := ha.sl
  have htl := ha.tl
  have hlen := made0_len P a.when f
  rw [ha.sz] at hlen
  have hsz := ha.sz
  have hg := able_goods ha
  rw [← hS] at hg
  have hG := tree_good (P := P) (L := L) (by omega) f (allN_fo hN ha.fo)
  have h0 : GS L ⟨[], false, []⟩ [] := ⟨rfl, by simp, by simp, by simp⟩
  have key : ∃ m, GS L (pre0 P a.when f) m ∧ (L.must → (pre0 P a.when f).bad = false) := by
    rcases able_split ha with ⟨hw, xc, kc, xb, kb, rfl, _⟩ | ⟨hw, xb, kb, rfl, _⟩
    · rw [hw]
      simp only [Fo.size] at hsz
      unfold pre0
      rw [if_pos rfl]
      obtain ⟨m1, p1, g1, b1⟩ := hG 0 (all_atP hg (by simp [goods])) _ _ h0 (by simp [szs]; omega)
      have a1 := nth_gr (ems_gr P (.cons xc kc (.cons xb kb .nil))) 0 ⟨[], false, []⟩
      rw [show ((szs (.cons xc kc (.cons xb kb .nil)))[0]?).getD 0 = 1 + kc.size from rfl] at a1
      generalize nthM (ems P (.cons xc kc (.cons xb kb .nil))) 0 ⟨[], false, []⟩ = s1 at *
      obtain ⟨m2, p2, g2, k2, b2⟩ := hole_gs g1 (c := 31) (by omega)
      have a2 := len_ahead 31 [] s1
      simp only [List.length_nil] at a1 a2
      generalize aheadM 31 [] s1 = s2 at *
      obtain ⟨m3, p3, g3, b3⟩ := hG 1 (all_atP hg (by simp [goods])) _ _ g2 (by rw [show ((szs (.cons xc kc (.cons xb kb .nil)))[1]?).getD 0 = 1 + kb.size from rfl]; omega)
      exact ⟨m3, here_gs g3 (k2.mono p3), fun hm => (b3 hm).trans ((b2 hm).trans (b1 hm))⟩
    · rw [hw]
      simp only [Fo.size] at hsz
      unfold pre0
      rw [if_neg (by simp)]
      obtain ⟨m1, p1, g1, b1⟩ := hG 0 (all_atP hg (by simp [goods])) _ _ h0 (by simp [szs]; omega)
      exact ⟨m1, g1, b1⟩
  obtain ⟨m, g, b⟩ := key
  exact ⟨m, g, b, hlen.1⟩
theorem made_gs {P : Pl} {L : Lim} {a : Ab} {f : Fo} (ha : AbleP a f) (hS : L.nS = a.slots.length) (hN : ∀ x ∈ a.tree, NodeP P L x) : ∃ m, GS L (made0 P a.when f) (m ++ [[34]]) ∧ (L.must → (made0 P a.when f).bad = false) ∧ (made0 P a.when f).b.length ≤ 25 * a.tree.length + 4 := by
  obtain ⟨m, g, b, h⟩ := pre_gs ha hS hN
  exact ⟨m, op_gs g (insOk rfl (by intro b hb; simp at hb; omega) (by omega)) fun e => absurd e (by unfold jumpO; omega), b, h⟩
end Go.Proofs.Tab
