/- Package kinds: the three tables. No condition. -/
import Derived.Test.YtmjalmocaiokhaaGreatDatB
import Derived.Test.YtmjalmocaiokhaaGreatTree
set_option linter.unusedVariables false
set_option linter.unusedSimpArgs false
namespace Go.Fw
open Go

theorem HB.rows {w : World} {g T sz : Nat} {rows : List (List Value)} (h : HB w g T rows.flatten) (hs : ∀ r ∈ rows, r.length = sz) : Rows w (some ⟨g, 0, none⟩) sz rows := by
  refine ⟨hs, fun hne => ⟨_, rfl, h.lt, fun i r hi j u hj => h.add ?_⟩⟩
  have hjs : j < sz := by
    have := hs r (List.mem_of_getElem? hi)
    have := (List.getElem?_eq_some_iff.1 hj).1
    omega
  clear h hne
  induction rows generalizing i with
  | nil => simp at hi
  | cons x rows ih =>
    have hx := hs x List.mem_cons_self
    rw [List.flatten_cons]
    cases i with
    | zero =>
      simp at hi; subst hi
      rw [Nat.zero_mul, Nat.zero_add, List.getElem?_append_left (by omega)]
      exact hj
    | succ i =>
      rw [List.getElem?_append_right (by rw [hx, Nat.succ_mul]; omega), hx]
      have := ih (fun r hr => hs r (List.mem_cons_of_mem _ hr)) i (by simpa using hi)
      rw [← this]
      congr 1
      rw [Nat.succ_mul]; omega

inductive All2 {α β : Type} (R : α → β → Prop) : List α → List β → Prop
  | nil : All2 R [] []
  | cons {a b l m} : R a b → All2 R l m → All2 R (a :: l) (b :: m)
theorem All2.len {α β : Type} {R : α → β → Prop} {l : List α} {m : List β} (h : All2 R l m) : l.length = m.length := by
  induction h with
  | nil => rfl
  | cons _ _ ih => simp [ih]
theorem All2.at_ {α β : Type} {R : α → β → Prop} {l : List α} {m : List β} (h : All2 R l m) : ∀ (i : Nat) a b, l[i]? = some a → m[i]? = some b → R a b := by
  induction h with
  | nil => intro i a b h; simp at h
  | cons h0 _ ih =>
    intro i a b h1 h2
    cases i with
    | zero => simp at h1 h2; subst h1 h2; exact h0
    | succ i => exact ih i a b (by simpa using h1) (by simpa using h2)

def chunks {α : Type} (sz : Nat) : Nat → List α → List (List α)
  | 0, _ => []
  | n + 1, l => l.take sz :: chunks sz n (l.drop sz)
theorem chunks_len {α : Type} {sz : Nat} : ∀ (n : Nat) (l : List α), l.length = n * sz → ∀ r ∈ chunks sz n l, r.length = sz
  | 0, _, _, _, h => by simp [chunks] at h
  | n + 1, l, hl, r, h => by
    rw [Nat.succ_mul] at hl
    rcases List.mem_cons.1 h with rfl | h
    · simp; omega
    · exact chunks_len n (l.drop sz) (by simp; omega) r h
theorem chunks_flat {α : Type} {sz : Nat} : ∀ (n : Nat) (l : List α), l.length = n * sz → (chunks sz n l).flatten = l
  | 0, l, h => by have := List.eq_nil_of_length_eq_zero (by simpa using h); subst this; rfl
  | n + 1, l, hl => by
    rw [Nat.succ_mul] at hl
    show l.take sz ++ (chunks sz n (l.drop sz)).flatten = l
    rw [chunks_flat n (l.drop sz) (by simp; omega), List.take_append_drop]
theorem HB.chunks {w : World} {g T sz n : Nat} {cs : List Value} (h : HB w g T cs) (hl : cs.length = n * sz) : Rows w (some ⟨g, 0, none⟩) sz (chunks sz n cs) :=
  HB.rows (by rw [chunks_flat n cs hl]; exact h) (chunks_len n cs hl)

theorem RowsOf.mk2 {α : Type} {w : World} {g T sz n : Nat} {cs : List Value} {R : World → List Value → α → Prop} {L : List α} (h : HB w g T cs) (hl : cs.length = n * sz) (hal : All2 (R w) (chunks sz n cs) L) : RowsOf w (some ⟨g, 0, none⟩) sz R L :=
  ⟨_, h.chunks hl, hal.len, hal.at_⟩

/-- A sign: what it takes, what it tells. -/
structure Sg where
  args : List Int
  tell : Int
deriving Inhabited
def SgIn (T B : Nat) (w : World) (r : List Value) (s : Sg) : Prop := ∃ nm g f, r = [.string nm, .slice (some ⟨g, 0, none⟩) s.args.length s.args.length, .int .i8 s.tell, .func (.func f) #[] #[]] ∧ HB w g T (s.args.map fun n => .int .i8 n) ∧ B ≤ g
theorem SgIn.fr {T B : Nat} {S : List Nat} {w w' : World} {r : List Value} {s : Sg} (h : SgIn T B w r s) (hf : Fr S w w') (hs : ∀ b, B ≤ b → b ∉ S) : SgIn T B w' r s := by
  obtain ⟨nm, g, f, h1, h2, h3⟩ := h
  exact ⟨nm, g, f, h1, h2.fr hf (hs g h3), h3⟩

def fieldsL : List Sg := [⟨[3], 1⟩, ⟨[3], 1⟩, ⟨[3], 1⟩, ⟨[3], 1⟩, ⟨[3], 4⟩, ⟨[3], 5⟩, ⟨[4], 1⟩, ⟨[4], 1⟩, ⟨[4], 2⟩, ⟨[5], 1⟩, ⟨[5], 6⟩, ⟨[5], 4⟩, ⟨[6], 1⟩]
def funcsL : List Sg := [⟨[4], 4⟩, ⟨[4, -1], 5⟩, ⟨[1], 1⟩, ⟨[5], 3⟩, ⟨[6, 3], 2⟩, ⟨[3, -2], 2⟩, ⟨[1], 1⟩, ⟨[1, 1], 1⟩, ⟨[1, 1], 1⟩]
def effectsL : List Sg := [⟨[3, 5], 0⟩, ⟨[3, 5], 0⟩, ⟨[4], 0⟩, ⟨[3, 1], 0⟩, ⟨[4, 1], 0⟩, ⟨[4, 1], 0⟩, ⟨[3, 1], 0⟩, ⟨[3, 1], 0⟩, ⟨[5], 0⟩]
end Go.Fw
namespace Go.Proofs.Tab
open Go Go.Fw
/-- What the tables answer. -/
def Signs (B : Nat) (w : World) (v : Value) (l : List Sg) : Prop := ∃ g, v = .slice (some ⟨g, 0, none⟩) l.length l.length ∧ RowsOf w (some ⟨g, 0, none⟩) 4 (SgIn 51 B) l ∧ B ≤ g

set_option maxRecDepth 100000 in
theorem effects_ok (w0 : World) : Ret Tryz.prog 100 [] w0 [] fun v w' => Signs w0.heap.size w' v effectsL := by
  refine fn_go (cx_ok 20 []) wideOrders Tryz.func100 rfl rfl Tryz.call100 (by simp [cx]) ?_; conv => whnf
  refine EvNew.blk fun g1 w1 hg1 hz1 hF1 hB1 => ?_
  conv => whnf
  refine EvNew.blk fun g2 w2 hg2 hz2 hF2 hB2 => ?_
  conv => whnf
  refine EvNew.blk fun g3 w3 hg3 hz3 hF3 hB3 => ?_
  conv => whnf
  refine EvNew.blk fun g4 w4 hg4 hz4 hF4 hB4 => ?_
  conv => whnf
  refine EvNew.blk fun g5 w5 hg5 hz5 hF5 hB5 => ?_
  conv => whnf
  refine EvNew.blk fun g6 w6 hg6 hz6 hF6 hB6 => ?_
  conv => whnf
  refine EvNew.blk fun g7 w7 hg7 hz7 hF7 hB7 => ?_
  conv => whnf
  refine EvNew.blk fun g8 w8 hg8 hz8 hF8 hB8 => ?_
  conv => whnf
  refine EvNew.blk fun g9 w9 hg9 hz9 hF9 hB9 => ?_
  conv => whnf
  refine EvNew.blk fun g10 w10 hg10 hz10 hF10 hB10 => ?_
  conv => whnf
  have e10 := Fr.refl [] w10
  have e9 := hF10.trans e10
  have e8 := hF9.trans e9
  have e7 := hF8.trans e8
  have e6 := hF7.trans e7
  have e5 := hF6.trans e6
  have e4 := hF5.trans e5
  have e3 := hF4.trans e4
  have e2 := hF3.trans e3
  have e1 := hF2.trans e2
  have e0 := hF1.trans e1
  have s1 := hF1.size
  have s2 := hF2.size
  have s3 := hF3.size
  have s4 := hF4.size
  have s5 := hF5.size
  have s6 := hF6.size
  have s7 := hF7.size
  have s8 := hF8.size
  have s9 := hF9.size
  have s10 := hF10.size
  refine ⟨e0, g10, rfl, ?_, by omega⟩
  exact RowsOf.mk2 (n := 9) hB10 rfl (All2.cons ⟨_, g1, _, rfl, hB1.fr0 e1, by omega⟩ (All2.cons ⟨_, g2, _, rfl, hB2.fr0 e2, by omega⟩ (All2.cons ⟨_, g3, _, rfl, hB3.fr0 e3, by omega⟩ (All2.cons ⟨_, g4, _, rfl, hB4.fr0 e4, by omega⟩ (All2.cons ⟨_, g5, _, rfl, hB5.fr0 e5, by omega⟩ (All2.cons ⟨_, g6, _, rfl, hB6.fr0 e6, by omega⟩ (All2.cons ⟨_, g7, _, rfl, hB7.fr0 e7, by omega⟩ (All2.cons ⟨_, g8, _, rfl, hB8.fr0 e8, by omega⟩ (All2.cons ⟨_, g9, _, rfl, hB9.fr0 e9, by omega⟩ All2.nil)))))))))

set_option maxRecDepth 100000 in
theorem funcs_ok (w0 : World) : Ret Tryz.prog 121 [] w0 [] fun v w' => Signs w0.heap.size w' v funcsL := by
  refine fn_go (cx_ok 20 []) wideOrders Tryz.func121 rfl rfl Tryz.call121 (by simp [cx]) ?_; conv => whnf
  refine EvNew.blk fun g1 w1 hg1 hz1 hF1 hB1 => ?_
  conv => whnf
  refine EvNew.blk fun g2 w2 hg2 hz2 hF2 hB2 => ?_
  conv => whnf
  refine EvNew.blk fun g3 w3 hg3 hz3 hF3 hB3 => ?_
  conv => whnf
  refine EvNew.blk fun g4 w4 hg4 hz4 hF4 hB4 => ?_
  conv => whnf
  refine EvNew.blk fun g5 w5 hg5 hz5 hF5 hB5 => ?_
  conv => whnf
  refine EvNew.blk fun g6 w6 hg6 hz6 hF6 hB6 => ?_
  conv => whnf
  refine EvNew.blk fun g7 w7 hg7 hz7 hF7 hB7 => ?_
  conv => whnf
  refine EvNew.blk fun g8 w8 hg8 hz8 hF8 hB8 => ?_
  conv => whnf
  refine EvNew.blk fun g9 w9 hg9 hz9 hF9 hB9 => ?_
  conv => whnf
  refine EvNew.blk fun g10 w10 hg10 hz10 hF10 hB10 => ?_
  conv => whnf
  have e10 := Fr.refl [] w10
  have e9 := hF10.trans e10
  have e8 := hF9.trans e9
  have e7 := hF8.trans e8
  have e6 := hF7.trans e7
  have e5 := hF6.trans e6
  have e4 := hF5.trans e5
  have e3 := hF4.trans e4
  have e2 := hF3.trans e3
  have e1 := hF2.trans e2
  have e0 := hF1.trans e1
  have s1 := hF1.size
  have s2 := hF2.size
  have s3 := hF3.size
  have s4 := hF4.size
  have s5 := hF5.size
  have s6 := hF6.size
  have s7 := hF7.size
  have s8 := hF8.size
  have s9 := hF9.size
  have s10 := hF10.size
  refine ⟨e0, g10, rfl, ?_, by omega⟩
  exact RowsOf.mk2 (n := 9) hB10 rfl (All2.cons ⟨_, g1, _, rfl, hB1.fr0 e1, by omega⟩ (All2.cons ⟨_, g2, _, rfl, hB2.fr0 e2, by omega⟩ (All2.cons ⟨_, g3, _, rfl, hB3.fr0 e3, by omega⟩ (All2.cons ⟨_, g4, _, rfl, hB4.fr0 e4, by omega⟩ (All2.cons ⟨_, g5, _, rfl, hB5.fr0 e5, by omega⟩ (All2.cons ⟨_, g6, _, rfl, hB6.fr0 e6, by omega⟩ (All2.cons ⟨_, g7, _, rfl, hB7.fr0 e7, by omega⟩ (All2.cons ⟨_, g8, _, rfl, hB8.fr0 e8, by omega⟩ (All2.cons ⟨_, g9, _, rfl, hB9.fr0 e9, by omega⟩ All2.nil)))))))))

set_option maxRecDepth 100000 in
theorem fields_ok (w0 : World) : Ret Tryz.prog 120 [] w0 [] fun v w' => Signs w0.heap.size w' v fieldsL := by
  refine fn_go (cx_ok 28 []) wideOrders Tryz.func120 rfl rfl Tryz.call120 (by simp [cx]) ?_; conv => whnf
  refine EvNew.blk fun g1 w1 hg1 hz1 hF1 hB1 => ?_
  conv => whnf
  refine EvNew.blk fun g2 w2 hg2 hz2 hF2 hB2 => ?_
  conv => whnf
  refine EvNew.blk fun g3 w3 hg3 hz3 hF3 hB3 => ?_
  conv => whnf
  refine EvNew.blk fun g4 w4 hg4 hz4 hF4 hB4 => ?_
  conv => whnf
  refine EvNew.blk fun g5 w5 hg5 hz5 hF5 hB5 => ?_
  conv => whnf
  refine EvNew.blk fun g6 w6 hg6 hz6 hF6 hB6 => ?_
  conv => whnf
  refine EvNew.blk fun g7 w7 hg7 hz7 hF7 hB7 => ?_
  conv => whnf
  refine EvNew.blk fun g8 w8 hg8 hz8 hF8 hB8 => ?_
  conv => whnf
  refine EvNew.blk fun g9 w9 hg9 hz9 hF9 hB9 => ?_
  conv => whnf
  refine EvNew.blk fun g10 w10 hg10 hz10 hF10 hB10 => ?_
  conv => whnf
  refine EvNew.blk fun g11 w11 hg11 hz11 hF11 hB11 => ?_
  conv => whnf
  refine EvNew.blk fun g12 w12 hg12 hz12 hF12 hB12 => ?_
  conv => whnf
  refine EvNew.blk fun g13 w13 hg13 hz13 hF13 hB13 => ?_
  conv => whnf
  refine EvNew.blk fun g14 w14 hg14 hz14 hF14 hB14 => ?_
  conv => whnf
  have e14 := Fr.refl [] w14
  have e13 := hF14.trans e14
  have e12 := hF13.trans e13
  have e11 := hF12.trans e12
  have e10 := hF11.trans e11
  have e9 := hF10.trans e10
  have e8 := hF9.trans e9
  have e7 := hF8.trans e8
  have e6 := hF7.trans e7
  have e5 := hF6.trans e6
  have e4 := hF5.trans e5
  have e3 := hF4.trans e4
  have e2 := hF3.trans e3
  have e1 := hF2.trans e2
  have e0 := hF1.trans e1
  have s1 := hF1.size
  have s2 := hF2.size
  have s3 := hF3.size
  have s4 := hF4.size
  have s5 := hF5.size
  have s6 := hF6.size
  have s7 := hF7.size
  have s8 := hF8.size
  have s9 := hF9.size
  have s10 := hF10.size
  have s11 := hF11.size
  have s12 := hF12.size
  have s13 := hF13.size
  have s14 := hF14.size
  refine ⟨e0, g14, rfl, ?_, by omega⟩
  exact RowsOf.mk2 (n := 13) hB14 rfl (All2.cons ⟨_, g1, _, rfl, hB1.fr0 e1, by omega⟩ (All2.cons ⟨_, g2, _, rfl, hB2.fr0 e2, by omega⟩ (All2.cons ⟨_, g3, _, rfl, hB3.fr0 e3, by omega⟩ (All2.cons ⟨_, g4, _, rfl, hB4.fr0 e4, by omega⟩ (All2.cons ⟨_, g5, _, rfl, hB5.fr0 e5, by omega⟩ (All2.cons ⟨_, g6, _, rfl, hB6.fr0 e6, by omega⟩ (All2.cons ⟨_, g7, _, rfl, hB7.fr0 e7, by omega⟩ (All2.cons ⟨_, g8, _, rfl, hB8.fr0 e8, by omega⟩ (All2.cons ⟨_, g9, _, rfl, hB9.fr0 e9, by omega⟩ (All2.cons ⟨_, g10, _, rfl, hB10.fr0 e10, by omega⟩ (All2.cons ⟨_, g11, _, rfl, hB11.fr0 e11, by omega⟩ (All2.cons ⟨_, g12, _, rfl, hB12.fr0 e12, by omega⟩ (All2.cons ⟨_, g13, _, rfl, hB13.fr0 e13, by omega⟩ All2.nil)))))))))))))
end Go.Proofs.Tab
