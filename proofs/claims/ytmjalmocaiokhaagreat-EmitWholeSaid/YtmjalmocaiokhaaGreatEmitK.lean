/- Package emit: the code that is made, read again, in plain Lean. No condition. -/
import Derived.Test.YtmjalmocaiokhaaGreatCode
set_option linter.unusedVariables false
set_option linter.unusedSimpArgs false
set_option maxRecDepth 100000
namespace Go.Proofs.Tab
open Go Go.Fw

/-- The same opcodes, the same lengths. -/
abbrev Shp (l m : List (List Int)) : Prop := All2 (fun x y => x.length = y.length ∧ arg x 0 = arg y 0) l m
theorem Shp.refl : ∀ l, Shp l l
  | [] => .nil
  | _ :: l => .cons ⟨rfl, rfl⟩ (Shp.refl l)
theorem Shp.flat {l m : List (List Int)} (h : Shp l m) : l.flatten.length = m.flatten.length := by
  induction h with
  | nil => rfl
  | cons h0 _ ih => simp only [List.flatten_cons, List.length_append]; omega
theorem all2_split {α β : Type} {R : α → β → Prop} : ∀ {l1 l2 : List α} {m : List β}, All2 R (l1 ++ l2) m → ∃ m1 m2, m = m1 ++ m2 ∧ All2 R l1 m1 ∧ All2 R l2 m2
  | [], l2, m, h => ⟨[], m, rfl, .nil, h⟩
  | a :: l1, l2, m, h => by
    cases h with
    | @cons _ b _ m h0 h1 =>
      obtain ⟨m1, m2, rfl, g1, g2⟩ := all2_split h1
      exact ⟨b :: m1, m2, rfl, .cons h0 g1, g2⟩
structure GP (L : Lim) (m0 l0 l : List (List Int)) : Prop where
  sh : Shp l0 l
  ok : ∀ x ∈ l, InsOk L x
  jo : ∀ x ∈ l, jumpO (arg x 0) → ∃ p : Nat, tgt x = p ∧ IsStart m0 p

theorem set_mid {A B C : List Int} {n : Nat} {v : Int} (h : n < B.length) : (A ++ B ++ C).set (A.length + n) v = A ++ B.set n v ++ C := by
  rw [List.append_assoc, List.set_append_right _ _ (by omega), List.set_append_left _ _ (by omega), List.append_assoc]
  congr 2
  congr 1
  omega
theorem arg_set {x : List Int} {i j : Nat} {v : Int} (h : i ≠ j) : arg (x.set i v) j = arg x j := by
  unfold arg; rw [List.getD_eq_getElem?_getD, List.getD_eq_getElem?_getD, List.getElem?_set_ne h]
theorem arg_set_self {x : List Int} {i : Nat} {v : Int} (h : i < x.length) : arg (x.set i v) i = v := by
  unfold arg; rw [List.getD_eq_getElem?_getD, List.getElem?_set_self h]; rfl

theorem lay_gp {L : Lim} {m0 l0 l : List (List Int)} (h : GP L m0 l0 l) {p : Nat × Nat} (hh : IsHole l0 p.1) (ht : IsStart m0 p.2) (hl : m0.flatten.length < 65536) : ∃ l', layM p l.flatten = l'.flatten ∧ GP L m0 l0 l' := by
  obtain ⟨l1, x, l2, rfl, hj, ha, h3⟩ := hh
  obtain ⟨m1, m2, rfl, s1, s2⟩ := all2_split h.sh
  cases s2 with
  | @cons _ y _ m2 s3 s4 =>
    have hlt : p.2 < 65536 := by
      obtain ⟨k1, k2, e, e2⟩ := ht
      rw [e, List.flatten_append, List.length_append] at hl
      omega
    have f1 := Shp.flat s1
    obtain ⟨n, hn⟩ : ∃ n, y.length = n + 2 := ⟨y.length - 2, by omega⟩
    have hp1 : p.1 = m1.flatten.length + n := by omega
    obtain ⟨y', hy'⟩ : ∃ y', y' = (y.set n (u8 ((p.2 : Int).fdiv 256))).set (n + 1) (u8 p.2) := ⟨_, rfl⟩
    have hyl : y'.length = y.length := by rw [hy']; simp
    have hy0 : arg y' 0 = arg y 0 := by rw [hy', arg_set (by omega), arg_set (by omega)]
    have hyo := h.ok y (by simp)
    have hjy : jumpO (arg y 0) := by rw [← s3.2]; exact hj
    have hok : InsOk L y' := by
      refine ⟨by intro e; rw [e] at hyl; simp at hyl; omega, by rw [hy0, hyl]; exact hyo.sz, ?_, fun e => ?_, fun e => ?_, fun e => ?_, fun e => ?_⟩
      · intro b hb
        rw [hy'] at hb
        rcases List.mem_or_eq_of_mem_set hb with hb | rfl
        · rcases List.mem_or_eq_of_mem_set hb with hb | rfl
          · exact hyo.by_ b hb
          · exact u8_range _
        · exact u8_range _
      · rw [hy0] at e; unfold jumpO at hjy; omega
      · rw [hy0] at e; unfold jumpO at hjy; omega
      · rw [hy0] at e
        have h32 : arg y 0 = 32 := by unfold jumpO at hjy; omega
        have hz := hyo.sz
        rw [h32] at hz
        have : y.length = 5 := by have : szL 32 = some 4 := rfl; rw [this] at hz; injection hz with hz; omega
        rw [hy', arg_set (by omega), arg_set (by omega)]
        exact hyo.slot (.inr (.inr h32))
      · rw [hy0] at e
        have hz := hyo.sz
        rw [e] at hz
        have : y.length = 5 := by have : szL 32 = some 4 := rfl; rw [this] at hz; injection hz with hz; omega
        rw [hy', arg_set (by omega), arg_set (by omega)]
        exact hyo.slot2 e
    refine ⟨m1 ++ y' :: m2, ?_, ?_, ?_, ?_⟩
    · unfold layM
      rw [hp1, List.flatten_append, List.flatten_cons, ← List.append_assoc, set_mid (by omega), Nat.add_assoc, set_mid (by simp; omega), List.flatten_append, List.flatten_cons, hy', List.append_assoc]
    · refine All2.append s1 (.cons ⟨by rw [hyl]; exact s3.1, by rw [hy0]; exact s3.2⟩ s4)
    · intro z hz
      rcases List.mem_append.1 hz with hz | hz
      · exact h.ok z (List.mem_append.2 (.inl hz))
      · rcases List.mem_cons.1 hz with rfl | hz
        · exact hok
        · exact h.ok z (List.mem_append.2 (.inr (List.mem_cons_of_mem _ hz)))
    · intro z hz hjz
      rcases List.mem_append.1 hz with hz | hz
      · exact h.jo z (List.mem_append.2 (.inl hz)) hjz
      · rcases List.mem_cons.1 hz with rfl | hz
        · refine ⟨p.2, ?_, ht⟩
          unfold tgt
          rw [hyl, hn, show n + 2 - 2 = n by omega, show n + 2 - 1 = n + 1 by omega, hy', arg_set (by omega), arg_set_self (by omega), arg_set_self (by simp; omega)]
          exact pair_wide (by omega) (by omega)
        · exact h.jo z (List.mem_append.2 (.inr (List.mem_cons_of_mem _ hz))) hjz

theorem layAll_gp {L : Lim} {m0 l0 : List (List Int)} (hl : m0.flatten.length < 65536) : ∀ (ps : List (Nat × Nat)) {l : List (List Int)}, GP L m0 l0 l → (∀ p ∈ ps, IsHole l0 p.1 ∧ IsStart m0 p.2) → ∃ l', layAll ps l.flatten = l'.flatten ∧ GP L m0 l0 l'
  | [], l, h, _ => ⟨l, rfl, h⟩
  | p :: ps, l, h, hp => by
    obtain ⟨a, b⟩ := hp p List.mem_cons_self
    obtain ⟨l1, e1, g1⟩ := lay_gp h a b hl
    obtain ⟨l2, e2, g2⟩ := layAll_gp hl ps g1 fun q hq => hp q (List.mem_cons_of_mem _ hq)
    exact ⟨l2, by show layAll ps (layM p l.flatten) = _; rw [e1]; exact e2, g2⟩

/-! ### Reading -/
theorem szL_kind (op : Int) : szL op = (kindO op).map szK := by
  unfold szL kindO
  split
  · rfl
  split
  · rfl
  split
  · rfl
  split
  · rfl
  · rfl
/-- The instruction whose bytes are x, at a place. -/
def mkIn (pos : Nat) (x : List Int) : In := ⟨pos, arg x 0, (argsB ((kindO (arg x 0)).getD 0) x.tail).1, (argsB ((kindO (arg x 0)).getD 0) x.tail).2.1, (argsB ((kindO (arg x 0)).getD 0) x.tail).2.2⟩
def insOf : Nat → List (List Int) → List In
  | _, [] => []
  | pos, x :: l => mkIn pos x :: insOf (pos + x.length) l
theorem getD_app {a b : List Int} {i : Nat} (h : i < a.length) : (a ++ b).getD i 0 = a.getD i 0 := by
  rw [List.getD_eq_getElem?_getD, List.getD_eq_getElem?_getD, List.getElem?_append_left h]
theorem argsB_app {k : Int} {a b : List Int} (h : szK k = a.length) : argsB k (a ++ b) = argsB k a := by
  unfold szK at h
  unfold argsB
  by_cases k1 : k = 1
  · rw [if_pos k1] at h; rw [if_pos k1, if_pos k1, getD_app (by omega)]
  rw [if_neg k1] at h
  by_cases k2 : k = 2
  · rw [if_pos k2] at h; rw [if_neg k1, if_pos k2, if_neg k1, if_pos k2, getD_app (by omega), getD_app (by omega)]
  rw [if_neg k2] at h
  by_cases k3 : k = 3
  · rw [if_pos k3] at h
    rw [if_neg k1, if_neg k2, if_pos k3, if_neg k1, if_neg k2, if_pos k3, getD_app (by omega), getD_app (by omega), getD_app (by omega), getD_app (by omega)]
  rw [if_neg k1, if_neg k2, if_neg k3, if_neg k1, if_neg k2, if_neg k3]
theorem ins_kind {L : Lim} {x : List Int} (h : InsOk L x) : ∃ k, kindO (arg x 0) = some k ∧ szK k = x.length - 1 := by
  have := h.sz
  rw [szL_kind] at this
  obtain ⟨k, h1, h2⟩ := Option.map_eq_some_iff.1 this
  exact ⟨k, h1, h2⟩
theorem read_at {L : Lim} {x : List Int} (h : InsOk L x) (A C : List Int) : readL (A ++ (x ++ C)) A.length = (0, mkIn A.length x) := by
  obtain ⟨k, h1, h2⟩ := ins_kind h
  have hne : 0 < x.length := List.length_pos_iff.2 h.ne
  have e0 : (A ++ (x ++ C)).getD A.length 0 = arg x 0 := by
    rw [List.getD_eq_getElem?_getD, List.getElem?_append_right (Nat.le_refl _), Nat.sub_self, List.getElem?_append_left hne]
    unfold arg; rw [List.getD_eq_getElem?_getD]
  have e1 : (A ++ (x ++ C)).drop (A.length + 1) = x.tail ++ C := by
    rw [List.drop_append]
    rw [List.drop_eq_nil_of_le (by omega), List.nil_append, show A.length + 1 - A.length = 1 by omega]
    cases x with
    | nil => simp at hne
    | cons a x => rfl
  unfold readL
  rw [e0, h1]
  dsimp only
  rw [if_neg (by simp; omega), e1, argsB_app (by simp; omega)]
  unfold mkIn
  rw [h1]
  rfl
theorem all_at {L : Lim} : ∀ (l : List (List Int)) (A : List Int) (n : Nat), (∀ x ∈ l, InsOk L x) → l.flatten.length ≤ n → allL (A ++ l.flatten) n A.length = (0, 0, insOf A.length l)
  | [], A, n, _, _ => by
    cases n with
    | zero => rfl
    | succ n => unfold allL; rw [if_neg (by simp)]; rfl
  | x :: l, A, n, h, hn => by
    have hx := h x List.mem_cons_self
    have hne : 0 < x.length := List.length_pos_iff.2 hx.ne
    simp only [List.flatten_cons, List.length_append] at hn
    obtain ⟨n, rfl⟩ : ∃ m, n = m + 1 := ⟨n - 1, by omega⟩
    obtain ⟨k, k1, k2⟩ := ins_kind hx
    have hr := read_at hx A l.flatten
    have hst : stepL (mkIn A.length x).op = x.length := by
      show stepL (arg x 0) = _
      unfold stepL sizeO
      rw [k1]
      show max 1 (1 + szK k) = _
      omega
    have ih := all_at l (A ++ x) n (fun y hy => h y (List.mem_cons_of_mem _ hy)) (by omega)
    unfold allL
    rw [List.flatten_cons, if_pos (by simp; omega), hr]
    dsimp only
    rw [if_neg (by simp), hst, show A ++ (x ++ l.flatten) = (A ++ x) ++ l.flatten by simp, show A.length + x.length = (A ++ x).length by simp, ih]
    simp [insOf]

theorem insOf_app : ∀ (a b : List (List Int)) (p : Nat), insOf p (a ++ b) = insOf p a ++ insOf (p + a.flatten.length) b
  | [], b, p => by simp [insOf]
  | x :: a, b, p => by
    simp only [List.cons_append, insOf, List.flatten_cons, List.length_append]
    rw [insOf_app a b, Nat.add_assoc]
theorem start_ins {m l : List (List Int)} {p : Nat} (h : IsStart m p) (hs : Shp (m ++ [[34]]) l) : p < l.flatten.length ∧ ∃ y ∈ insOf 0 l, y.at_ = p := by
  obtain ⟨k1, k2, rfl, rfl⟩ := h
  rw [List.append_assoc] at hs
  obtain ⟨j1, j2, rfl, s1, s2⟩ := all2_split hs
  have f1 := Shp.flat s1
  obtain ⟨z, rest, he⟩ : ∃ z rest, k2 ++ [[34]] = z :: rest := by
    cases k2 with
    | nil => exact ⟨_, _, rfl⟩
    | cons a b => exact ⟨_, _, rfl⟩
  have hzl : 0 < (k2 ++ [[34]]).flatten.length := by simp
  have f2 := Shp.flat s2
  rw [he] at s2
  cases s2 with
  | @cons _ z' _ rest' h0 h1 =>
    refine ⟨by rw [List.flatten_append, List.length_append]; omega, mkIn (0 + j1.flatten.length) z', ?_, ?_⟩
    · rw [insOf_app]; simp [insOf]
    · show ((0 + j1.flatten.length : Nat) : Int) = _; omega
theorem mem_insOf : ∀ {l : List (List Int)} {p : Nat} {x : In}, x ∈ insOf p l → ∃ q z, z ∈ l ∧ x = mkIn q z ∧ p ≤ q ∧ q + z.length ≤ p + l.flatten.length
  | [], _, _, h => by simp [insOf] at h
  | z :: l, p, x, h => by
    simp only [insOf, List.mem_cons] at h
    simp only [List.flatten_cons, List.length_append]
    rcases h with rfl | h
    · exact ⟨p, z, List.mem_cons_self, rfl, Nat.le_refl _, by omega⟩
    · obtain ⟨q, z', h1, h2, h3, h4⟩ := mem_insOf h
      exact ⟨q, z', List.mem_cons_of_mem _ h1, h2, by omega, by omega⟩

def tgtI (x : In) : Int := if x.op = 30 ∨ x.op = 31 ∨ x.op = 33 then x.a else if x.op = 32 then x.c else -1
structure CondI (nS nI nT : Int) (n : Nat) (l : List In) (x : In) : Prop where
  lo : 0 ≤ x.at_
  hi : x.at_ ≤ n
  tg : 0 ≤ tgtI x → tgtI x < n ∧ ∃ y ∈ l, y.at_ = tgtI x
  push : x.op = 1 → x.a < nI
  is_ : x.op = 45 → x.a < nT
  slot : x.op = 4 ∨ x.op = 5 ∨ x.op = 32 → x.a < nS
  slot2 : x.op = 32 → x.b < nS
/-- Code that is whole. -/
structure WholeC (nS nI nT : Int) (b : List Int) : Prop where
  byt : Byt b
  ex : ∃ l, allL b b.length 0 = (0, 0, l) ∧ (∃ i y, l = i ++ [y] ∧ y.op = 34) ∧ ∀ x ∈ l, CondI nS nI nT b.length l x

theorem tail_getD (z : List Int) (i : Nat) : z.tail.getD i 0 = arg z (i + 1) := by
  cases z with
  | nil => rfl
  | cons a z => rfl
theorem cond_mk {L : Lim} {m l : List (List Int)} {z : List Int} {q : Nat} (hz : z ∈ l) (hg : GP L m (m ++ [[34]]) l) (hq : q + z.length ≤ l.flatten.length) : CondI L.nS L.nI L.nT l.flatten.length (insOf 0 l) (mkIn q z) := by
  have hok := hg.ok z hz
  obtain ⟨k, h1, h2⟩ := ins_kind hok
  have hne : 0 < z.length := List.length_pos_iff.2 hok.ne
  have hk : ∀ op k', arg z 0 = op → kindO op = some k' → k = k' := fun op k' e1 e2 => by rw [e1, e2] at h1; injection h1 with h1; exact h1.symm
  have hm : mkIn q z = ⟨q, arg z 0, (argsB k z.tail).1, (argsB k z.tail).2.1, (argsB k z.tail).2.2⟩ := by unfold mkIn; rw [h1]; rfl
  have hwide : k = 2 → (argsB k z.tail).1 = pair (arg z 1) (arg z 2) ∧ z.length = 3 := fun e => by
    subst e
    refine ⟨?_, by unfold szK at h2; simp at h2; omega⟩
    unfold argsB
    simp only [tail_getD]
    rfl
  have hthree : k = 3 → (argsB k z.tail).1 = arg z 1 ∧ (argsB k z.tail).2.1 = arg z 2 ∧ (argsB k z.tail).2.2 = pair (arg z 3) (arg z 4) ∧ z.length = 5 := fun e => by
    subst e
    refine ⟨?_, ?_, ?_, by unfold szK at h2; simp at h2; omega⟩ <;> (unfold argsB; simp only [tail_getD]; rfl)
  have hsmall : k = 1 → (argsB k z.tail).1 = arg z 1 := fun e => by
    subst e
    unfold argsB
    simp only [tail_getD]
    rfl
  rw [hm]
  refine ⟨by show 0 ≤ (q : Int); omega, by show (q : Int) ≤ _; omega, fun _ => ?_, fun e => ?_, fun e => ?_, fun e => ?_, fun e => ?_⟩
  · rename_i ht
    have hj : jumpO (arg z 0) ∧ tgtI (⟨q, arg z 0, (argsB k z.tail).1, (argsB k z.tail).2.1, (argsB k z.tail).2.2⟩ : In) = tgt z := by
      unfold tgtI at ht ⊢
      dsimp only at ht ⊢
      by_cases c : arg z 0 = 30 ∨ arg z 0 = 31 ∨ arg z 0 = 33
      · rw [if_pos c]
        have k2 : k = 2 := by rcases c with c | c | c <;> exact hk _ 2 c rfl
        obtain ⟨e1, e2⟩ := hwide k2
        refine ⟨by unfold jumpO; omega, ?_⟩
        rw [e1]; unfold tgt; rw [e2]
      · rw [if_neg c] at ht ⊢
        by_cases c2 : arg z 0 = 32
        · rw [if_pos c2]
          obtain ⟨_, _, e3, e4⟩ := hthree (hk _ 3 c2 rfl)
          refine ⟨by unfold jumpO; omega, ?_⟩
          rw [e3]; unfold tgt; rw [e4]
        · rw [if_neg c2] at ht; omega
    rw [hj.2]
    obtain ⟨p, hp, hst⟩ := hg.jo z hz hj.1
    obtain ⟨a1, y, a2, a3⟩ := start_ins hst hg.sh
    rw [hp]
    exact ⟨by omega, y, a2, a3⟩
  · have e' : arg z 0 = 1 := e
    show (argsB k z.tail).1 < _
    rw [(hwide (hk _ 2 e' rfl)).1]; exact hok.push e'
  · have e' : arg z 0 = 45 := e
    show (argsB k z.tail).1 < _
    rw [(hwide (hk _ 2 e' rfl)).1]; exact hok.is_ e'
  · have e' : arg z 0 = 4 ∨ arg z 0 = 5 ∨ arg z 0 = 32 := e
    show (argsB k z.tail).1 < _
    have hs := hok.slot e'
    rcases e' with c | c | c
    · rw [hsmall (hk _ 1 c rfl)]; exact hs
    · rw [hsmall (hk _ 1 c rfl)]; exact hs
    · rw [(hthree (hk _ 3 c rfl)).1]; exact hs
  · have e' : arg z 0 = 32 := e
    show (argsB k z.tail).2.1 < _
    rw [(hthree (hk _ 3 e' rfl)).2.1]; exact hok.slot2 e'

/-- The code that is made of a checked ability, with pools that hold what it names, is whole. -/
theorem code_whole {ints : List Int} {texts : List ByteArray} {a : Ab} {f : Fo} (ha : AbleP a f) (hi : ints.length ≤ 4096) (hx : texts.length ≤ 4096) (hpi : ∀ x ∈ a.tree, ∀ n ∈ intsN x, n ∈ ints) (hpx : ∀ x ∈ a.tree, ∀ n ∈ textsN x, n ∈ texts) :
    badOf ints texts a f = false ∧ (codeOf ints texts a f).length ≤ 25 * a.tree.length + 4 ∧ WholeC a.slots.length ints.length texts.length (codeOf ints texts a f) := by
  obtain ⟨L, hL⟩ : ∃ L : Lim, L = ⟨a.slots.length, ints.length, texts.length, True⟩ := ⟨_, rfl⟩
  have num : ∀ {α : Type} [DecidableEq α] (l : List α) (x : α), l.length ≤ 4096 → x ∈ l → 0 ≤ (numF l x).getD 0 ∧ (numF l x).getD 0 < l.length ∧ (numF l x).isSome = true := fun l x h1 h2 => by
    have := List.idxOf_lt_length_iff.2 h2
    unfold numF
    rw [if_pos ⟨this, by omega⟩]
    exact ⟨by simp, by simp; omega, rfl⟩
  have hN : ∀ x ∈ a.tree, NodeP (poolP ints texts) L x := fun x hxm => by
    have pi : ∀ n ∈ intsN x, PI (poolP ints texts) L n := fun n hn => by
      obtain ⟨a1, a2, a3⟩ := num ints n hi (hpi x hxm n hn)
      subst hL
      exact ⟨a1, a2, by show (numF ints n).getD 0 < 65536; omega, fun _ => a3⟩
    refine ⟨fun e => pi _ (by simp [intsN, e]), fun e => ⟨pi _ (by simp [intsN, e]), pi _ (by simp [intsN, e]), pi _ (by simp [intsN, e])⟩, fun e => ⟨pi _ (by simp [intsN, e]), pi _ (by simp [intsN, e])⟩, fun e => ?_⟩
    obtain ⟨a1, a2, a3⟩ := num texts x.text hx (hpx x hxm _ (by simp [textsN, e]))
    subst hL
    exact ⟨a1, a2, by show (numF texts x.text).getD 0 < 65536; omega, fun _ => a3⟩
  have htl := ha.tl
  obtain ⟨m, g, hbad, hlen⟩ := pre_gs ha (L := L) (P := poolP ints texts) (by rw [hL]) hN
  have hbl : (made0 (poolP ints texts) a.when f).b = (m ++ [[34]]).flatten := by
    show (pre0 _ _ _).b ++ 34 :: [] = _
    rw [g.b]; simp
  have hml : m.flatten.length < 65536 := by
    have : (made0 (poolP ints texts) a.when f).b.length = m.flatten.length + 1 := by rw [hbl]; simp
    omega
  have hgp : GP L m (m ++ [[34]]) (m ++ [[34]]) := by
    refine ⟨Shp.refl _, fun x hx => ?_, fun x hx hj => ?_⟩
    · rcases List.mem_append.1 hx with hx | hx
      · exact g.ok x hx
      · simp at hx; subst hx
        exact insOk rfl (by intro b hb; simp at hb; omega) (by omega)
    · rcases List.mem_append.1 hx with hx | hx
      · exact g.jo x hx hj
      · simp at hx; subst hx
        exact absurd hj (by unfold jumpO arg; simp)
  obtain ⟨l, e1, g1⟩ := layAll_gp hml (made0 (poolP ints texts) a.when f).later hgp fun p hp => ⟨(g.la p hp).1.mono (Pre.one m [34]), (g.la p hp).2⟩
  have hcode : codeOf ints texts a f = l.flatten := by unfold codeOf; rw [hbl]; exact e1
  refine ⟨hbad (by rw [hL]; trivial), by unfold codeOf; rw [layAll_len]; exact hlen, ?_, insOf 0 l, ?_, ?_, ?_⟩
  · rw [hcode]
    intro x hx
    obtain ⟨z, hz, hxz⟩ := List.mem_flatten.1 hx
    exact (g1.ok z hz).by_ x hxz
  · rw [hcode]
    exact all_at l [] _ g1.ok (by simp)
  · obtain ⟨j1, j2, rfl, s1, s2⟩ := all2_split g1.sh
    cases s2 with
    | @cons _ y _ _ h0 h1 =>
      cases h1
      refine ⟨insOf 0 j1, mkIn (0 + j1.flatten.length) y, by rw [insOf_app]; rfl, ?_⟩
      show arg y 0 = 34
      rw [← h0.2]; rfl
  · intro x hx
    rw [hcode]
    obtain ⟨q, z, h1, rfl, h3, h4⟩ := mem_insOf hx
    have := cond_mk h1 g1 (q := q) (by omega)
    rw [hL] at this
    exact this
end Go.Proofs.Tab
