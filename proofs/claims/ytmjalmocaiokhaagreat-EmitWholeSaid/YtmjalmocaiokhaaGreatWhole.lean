/- The law's 'whole'. No condition. -/
import Derived.Test.YtmjalmocaiokhaaGreatLaw
set_option linter.unusedVariables false
set_option linter.unusedSimpArgs false
set_option maxRecDepth 100000
namespace Go.Proofs.Tab
open Go Go.Fw

def InsAt (w : World) (A : Option Addr) (l : List In) : Prop := Fw.Rows w A 5 (l.map In.cells)
theorem InsAt.idx {w : World} {A : Option Addr} {l : List In} (h : InsAt w A l) {n sz i : Nat} {K : Addr → Prop} (h1 : i < l.length) (hn : n = l.length) (hs : sz = 5) (k : ∀ a, A = some a → K (a.add (i * 5))) : EvIdx A n (i : Int) sz K := by
  obtain ⟨a, ha, _⟩ := Rows.at_ h (by rw [List.length_map]; omega)
  exact ⟨a, ha, by omega, by omega, by rw [hs, Int.toNat_natCast]; exact k a ha⟩
theorem InsAt.idx' {w : World} {A : Option Addr} {l : List In} (h : InsAt w A l) {n sz i : Nat} {z : Int} {K : Addr → Prop} (h1 : i < l.length) (hz : z = (i : Int)) (hn : n = l.length) (hs : sz = 5) (k : ∀ a, A = some a → K (a.add (i * 5))) : EvIdx A n z sz K := by subst hz; exact InsAt.idx h h1 hn hs k
theorem InsAt.cell {w : World} {A : Option Addr} {l : List In} (h : InsAt w A l) {a : Addr} (ha : A = some a) {i : Nat} {x : In} (hi : l[i]? = some x) {j : Nat} {v : Value} (hj : x.cells[j]? = some v) : w.cell? ((a.add (i * 5)).add j) = some v :=
  Rows.cell' h ha (i := i) (r := x.cells) (by rw [List.getElem?_map, hi]; rfl) hj
/-- The places that have been marked. -/
def marks (n : Nat) (l : List In) : List Value := (List.range (n + 1)).map fun (p : Nat) => Value.bool (l.any fun x => x.at_ == (p : Int))
theorem EvIdx.one {A : Option Addr} {n : Nat} {i : Int} {sz : Nat} {K : Addr → Prop} {a : Addr} (ha : A = some a) (h0 : 0 ≤ i) (h1 : i < n) (hs : sz = 1) (h : K (a.add i.toNat)) : EvIdx A n i sz K := ⟨a, ha, h0, h1, by rw [hs, Nat.mul_one]; exact h⟩
theorem marks_some {n : Nat} (l : List In) {k : Nat} (h : k ≤ n) : ∃ u, (marks n l)[k]? = some u := by
  unfold marks; rw [List.getElem?_map, List.getElem?_range (by omega : k < n + 1)]; exact ⟨_, rfl⟩
theorem marks_set {n : Nat} {l : List In} {x : In} (h0 : 0 ≤ x.at_) (h1 : x.at_ ≤ n) : (marks n l).set x.at_.toNat (.bool true) = marks n (l ++ [x]) := by
  apply List.ext_getElem?
  intro j
  unfold marks
  by_cases hj : j < n + 1
  · by_cases e : x.at_.toNat = j
    · subst e
      rw [List.getElem?_set_self (by simpa using hj), List.getElem?_map, List.getElem?_range hj]
      have : (x.at_ == ((x.at_.toNat : Nat) : Int)) = true := by simp; omega
      simp [this]
      omega
    · rw [List.getElem?_set_ne e, List.getElem?_map, List.getElem?_map, List.getElem?_range hj]
      have : (x.at_ == ((j : Nat) : Int)) = false := by simp; omega
      simp [this]
  · rw [List.getElem?_eq_none (by simp; omega), List.getElem?_eq_none (by simp; omega)]

theorem allL_le (l : List Int) : ∀ n i, (allL l n i).2.2.length ≤ l.length - i := by
  intro n
  induction n with
  | zero => intro i; simp [allL]
  | succ n ih =>
    intro i
    unfold allL
    split
    · rename_i c
      split
      · simp
      · have h1 := ih (i + stepL (readL l i).2.op)
        have h2 := stepL_pos (readL l i).2.op
        dsimp only
        split
        · simp; omega
        · simp
    · simp
theorem marks_nil (n : Nat) : marks n [] = List.replicate (n + 1) (.bool false) := by
  unfold marks
  apply List.ext_getElem?
  intro j
  by_cases hj : j < n + 1
  · rw [List.getElem?_map, List.getElem?_range hj, List.getElem?_replicate, if_pos hj]; rfl
  · rw [List.getElem?_eq_none (by simp; omega), List.getElem?_eq_none (by simp; omega)]
theorem marks_get {n : Nat} {l : List In} {k : Int} (h0 : 0 ≤ k) (h1 : k < n) (hy : ∃ y ∈ l, y.at_ = k) : (marks n l)[k.toNat]? = some (.bool true) := by
  unfold marks
  rw [List.getElem?_map, List.getElem?_range (by omega : k.toNat < n + 1)]
  obtain ⟨y, hm, he⟩ := hy
  have : (l.any fun x => x.at_ == ((k.toNat : Nat) : Int)) = true := List.any_eq_true.2 ⟨y, hm, by rw [he, Int.toNat_of_nonneg h0]; exact beq_self_eq_true k⟩
  show some (Value.bool (l.any fun x => x.at_ == ((k.toNat : Nat) : Int))) = _
  rw [this]

theorem whole_ok {A : Option Addr} {c : Nat} {b : List Int} {w : World} {nS nI nT : Int} (h : BytesAt w A b) (hlc : b.length ≤ c) (hl : b.length ≤ 1073741824) (hw : WholeC nS nI nT b) :
    Ret Tryz.prog 13 [.slice A b.length c, .int .i64 nS, .int .i64 nI, .int .i64 nT] w [] fun v w' => v = .bool true := by
  obtain ⟨hbyt, l, hall, ⟨l0, y, hly, hy⟩, hc⟩ := hw
  have hlp : 0 < l.length := by rw [hly]; simp
  have hll : l.length ≤ b.length := by have := allL_le b b.length 0; rw [hall] at this; simpa using this
  refine fn_go (cx_ok 134 [15]) wideOrders Tryz.func13 rfl rfl Tryz.call13 (by simp [cx]) ?_; conv => whnf
  refine EvCall.ret0 (copyBytes_ok A b.length c (b.map fun x => [.int .u8 x]) w h (by simp) (by simp [Value.oneCell']) (by omega)) fun v w1 hF1 hq => ?_
  obtain ⟨hO1, hB1⟩ := hq
  rw [flat_one] at hO1
  obtain ⟨A1, c1, rfl, hc1, _⟩ := hO1.form
  conv => whnf
  have hA := (all_ok (Own.rows hO1 (flat_one _ _).symm (by simp) (by simp)) hbyt hc1 hl).mono (R' := fun v w' => ∃ vl, v = .tuple #[vl, .int .i64 0, .int .i64 0] ∧ Own w' 71 5 vl l.length (l.flatMap In.cells) ∧ ∀ b, vl.ownBlock = some b → w1.heap.size ≤ b) (fun v w' _ hq => by rw [hall] at hq; exact hq)
  refine EvCall.ret0 hA fun v w2 hF2 hq => ?_
  obtain ⟨vl, rfl, hO2, hB2⟩ := hq
  obtain ⟨A2, c2, rfl, _⟩ := hO2.form
  have hI : InsAt w2 A2 l := Own.rows hO2 (by rw [List.flatMap_def]) (by intro r hr; obtain ⟨x, _, rfl⟩ := List.mem_map.1 hr; rfl) (by simp)
  have hF := hF1.trans hF2
  conv => whnf
  refine EvSplit.ff ?_
  conv => whnf
  refine EvSplit.eq (fun e0 => ?_) (fun _ => ?_)
  · omega
  conv => whnf
  refine EvAr.i64 (by omega) ?_; conv => whnf
  obtain ⟨k, hk⟩ : ∃ k : Nat, k + 1 = l.length := ⟨l.length - 1, by omega⟩
  have hlk : l[k]? = some y := by rw [hly] at hk ⊢; rw [List.getElem?_append_right (by simp at hk; omega)]; simp at hk; simp [hk]
  refine InsAt.idx' (i := k) hI (by omega) (by omega) rfl rfl fun a2 ha2 => ?_
  conv => whnf
  refine ⟨_, InsAt.cell hI ha2 hlk (j := 1) rfl, ?_⟩
  conv => whnf
  refine EvIf.ne (fun c => absurd hy c) (fun _ => ?_)
  conv => whnf
  refine EvAr.i64 (by omega) ?_; conv => whnf
  refine EvMake.one (n := b.length + 1) (cx_ok 0 []) rfl (⟨rfl, rfl, rfl, rfl⟩ : El (cx 0 []) 4 1 1 [.bool false]) (by omega) (by simp [maxLen]; omega) fun g w3 hg hz hF3 hB3 => ?_
  rw [← marks_nil] at hB3
  replace hF := hF.trans hF3
  have hO3 := hO2.fr0 hF3
  have hne : ∀ k, (Value.slice A2 l.length c2).ownBlock = some k → k ∉ [g] := fun k hk => by have := hO2.lt hk; simp; omega
  have hgb : w.heap.size ≤ g := by have := (hF1.trans hF2).size; omega
  conv => whnf
  refine EvLoop.meetG Nat (fun i => ⟨[(0, .v (.slice A b.length c)), (1, .v (.int .i64 nS)), (2, .v (.int .i64 nI)), (3, .v (.int .i64 nT)), (9, .v (.slice A2 l.length c2)), (12, .v (.slice (some ⟨g, 0, none⟩) (b.length + 1) (b.length + 1))), (13, .v (.int .i64 i))], [], 0⟩)
    (fun i w' => i ≤ l.length ∧ Fr [g] w3 w' ∧ HB w' g 4 (marks b.length (l.take i))) (fun i => l.length - i) 0
    Unit (.exit 0) (fun _ => ⟨[(0, .v (.slice A b.length c)), (1, .v (.int .i64 nS)), (2, .v (.int .i64 nI)), (3, .v (.int .i64 nT)), (9, .v (.slice A2 l.length c2)), (12, .v (.slice (some ⟨g, 0, none⟩) (b.length + 1) (b.length + 1)))], [], 0⟩)
    (fun _ w' => Fr [g] w3 w' ∧ HB w' g 4 (marks b.length l)) (by (refine SubS.mk ?_ ?_ <;> (repeat' (first | exact True.intro | refine And.intro ?_ ?_)) <;> (first | rfl | exact svi (by omega) | exact List.mem_cons_self | exact List.mem_cons_of_mem _ List.mem_cons_self | exact List.mem_cons_of_mem _ (List.mem_cons_of_mem _ List.mem_cons_self) | skip))) ⟨by omega, Fr.refl _ _, hB3⟩ ?_ ?_
  · clear hB3
    rintro K1 hK1 i w4 ⟨hi, hF4, hB4⟩
    conv => whnf
    refine EvIf.lt (fun g1 => ?_) (fun g1 => ?_)
    rotate_left
    · conv => whnf
      refine hK1 () _ _ (by (refine SubS.mk ?_ ?_ <;> (repeat' (first | exact True.intro | refine And.intro ?_ ?_)) <;> (first | rfl | exact svi (by omega) | exact List.mem_cons_self | exact List.mem_cons_of_mem _ List.mem_cons_self | exact List.mem_cons_of_mem _ (List.mem_cons_of_mem _ List.mem_cons_self) | skip))) ⟨hF4, ?_⟩
      rw [List.take_of_length_le (by omega)] at hB4; exact hB4
    have hil : i < l.length := by omega
    have hli : l[i]? = some l[i] := List.getElem?_eq_getElem hil
    have hcd := hc l[i] (List.getElem_mem hil)
    have hI4 : InsAt w4 A2 l := Own.rows (hO3.fr hF4 hne) (by rw [List.flatMap_def]) (by intro r hr; obtain ⟨x, _, rfl⟩ := List.mem_map.1 hr; rfl) (by simp)
    conv => whnf
    refine InsAt.idx hI4 hil rfl rfl fun a2 ha2 => ?_
    conv => whnf
    refine ⟨_, InsAt.cell hI4 ha2 hli (j := 0) rfl, ?_⟩
    conv => whnf
    have h0 := hcd.lo
    have h1 := hcd.hi
    obtain ⟨u, hu⟩ := marks_some (n := b.length) (l.take i) (k := l[i].at_.toNat) (by omega)
    refine EvIdx.one rfl hcd.lo (by omega) rfl ?_
    conv => whnf
    refine EvSt.blk hB4 hu rfl (by simp [rsOf]) fun w5 hF5 hB5 => ?_
    rw [marks_set hcd.lo hcd.hi, ← List.take_succ_eq_append_getElem hil] at hB5
    conv => whnf
    refine EvAr.i64 (by omega) ?_; conv => whnf
    exact ⟨i + 1, by (refine SubS.mk ?_ ?_ <;> (repeat' (first | exact True.intro | refine And.intro ?_ ?_)) <;> (first | rfl | exact svi (by omega) | exact List.mem_cons_self | exact List.mem_cons_of_mem _ List.mem_cons_self | exact List.mem_cons_of_mem _ (List.mem_cons_of_mem _ List.mem_cons_self) | skip)), ⟨by omega, hF4.trans hF5, hB5⟩, by omega⟩
  clear hB3
  rintro _ w3' ⟨hF3', hB3⟩
  conv => whnf
  refine EvLoop.meetG2 Nat (fun i => ⟨[(0, .v (.slice A b.length c)), (1, .v (.int .i64 nS)), (2, .v (.int .i64 nI)), (3, .v (.int .i64 nT)), (9, .v (.slice A2 l.length c2)), (12, .v (.slice (some ⟨g, 0, none⟩) (b.length + 1) (b.length + 1))), (14, .v (.int .i64 i))], [], 0⟩)
    (fun i w' => i ≤ l.length ∧ Fr [g] w3 w' ∧ HB w' g 4 (marks b.length l)) (fun i => l.length - i) 0
    Unit (.exit 2) (fun _ => ⟨[], [], 0⟩)
    (fun _ w' => Fr [g] w3 w') (by (refine SubS.mk ?_ ?_ <;> (repeat' (first | exact True.intro | refine And.intro ?_ ?_)) <;> (first | rfl | exact svi (by omega) | exact List.mem_cons_self | exact List.mem_cons_of_mem _ List.mem_cons_self | exact List.mem_cons_of_mem _ (List.mem_cons_of_mem _ List.mem_cons_self) | skip))) ⟨by omega, hF3', hB3⟩ ?_ ?_
  rotate_left
  · rintro _ w9 hF9
    conv => whnf
    exact ⟨hF.trans' hF9 (by simp; omega), rfl⟩
  clear hB3
  intro K1 hK1 hK2
  rintro i w4 ⟨hi, hF4, hB4⟩
  conv => whnf
  refine EvIf.lt (fun g1 => ?_) (fun g1 => ?_)
  rotate_left
  · conv => whnf
    exact hK1 () _ _ (by (refine SubS.mk ?_ ?_ <;> (repeat' (first | exact True.intro | refine And.intro ?_ ?_)) <;> (first | rfl | exact svi (by omega) | exact List.mem_cons_self | exact List.mem_cons_of_mem _ List.mem_cons_self | exact List.mem_cons_of_mem _ (List.mem_cons_of_mem _ List.mem_cons_self) | skip))) hF4
  have hil : i < l.length := by omega
  have hli : l[i]? = some l[i] := List.getElem?_eq_getElem hil
  have hcd := hc l[i] (List.getElem_mem hil)
  have hI4 : InsAt w4 A2 l := Own.rows (hO3.fr hF4 hne) (by rw [List.flatMap_def]) (by intro r hr; obtain ⟨x, _, rfl⟩ := List.mem_map.1 hr; rfl) (by simp)
  conv => whnf
  refine InsAt.idx hI4 hil rfl rfl fun a2 ha2 => ?_
  conv => whnf
  generalize hx : l[i] = x at hcd hli
  refine EvLdN.row (r := x.cells) (fun j v hj => InsAt.cell hI4 ha2 hli hj) rfl ?_
  conv => whnf
  refine EvNew.blk fun g5 w5 hg5 hz5 hF5 hB5 => ?_
  conv => whnf
  refine EvDo.storeBlk (vs := x.cells) (cx_ok 0 []) rfl hB5 rfl rfl (by simp [In.cells, Value.oneCell']) (by simp [rsOf]) fun w6 hF6 hB6 => ?_
  have hlt4 := hB4.lt
  have hF46 : Fr [] w4 w6 := hF5.trans' hF6 (by simp; omega)
  have hFg : Fr [g] w3 w6 := hF4.trans (hF46.mono (by simp))
  have hM6 := hB4.fr0 hF46
  conv => whnf
  refine EvLdN.row (r := x.cells) (i := 0) (sz := 0) (fun j v hj => hB6.add0 hj) rfl ?_
  conv => whnf
  refine EvCall.ret0 (target_ok x w6) fun v w7 hF7 hq => ?_
  subst hq
  have hB7 := hB6.fr0 hF7
  have hM7 := hM6.fr0 hF7
  replace hFg := hFg.trans (hF7.mono (by simp))
  clear hI4 hB6 hM6 hF7 hF6 hF5 hF4 hB5 hB4 hF46
  have hge := hcd.tg
  have hpu := hcd.push
  have his := hcd.is_
  have hsl := hcd.slot
  have hs2 := hcd.slot2
  conv => whnf
  refine EvSplit.ge (fun c => ?_) (fun c => ?_)
  rotate_left
  · conv => whnf
    have ho : x.op = 1 ∨ x.op = 45 ∨ x.op = 4 ∨ x.op = 5 ∨ x.op = 32 ∨ (x.op ≠ 1 ∧ x.op ≠ 45 ∧ x.op ≠ 4 ∧ x.op ≠ 5 ∧ x.op ≠ 32) := by omega
    rcases ho with ho | ho | ho | ho | ho | ho <;> (
      repeat (first
        | (refine EvLd.blk hB7 rfl ?_; conv => whnf)
        | (refine EvSplit.eq (fun _ => ?_) (fun _ => ?_) <;> first | (exfalso; omega) | (conv => whnf))
        | (refine EvSplit.ge (fun _ => ?_) (fun _ => ?_) <;> first | (exfalso; omega) | (conv => whnf))
        | (refine EvIf.eq (fun _ => ?_) (fun _ => ?_) <;> first | (exfalso; omega) | (conv => whnf))
        | (refine EvIf.ge (fun _ => ?_) (fun _ => ?_) <;> first | (exfalso; omega) | (conv => whnf)))
      (refine EvAr.i64 (by omega) ?_; conv => whnf)
      exact ⟨i + 1, by (refine SubS.mk ?_ ?_ <;> (repeat' (first | exact True.intro | refine And.intro ?_ ?_)) <;> (first | rfl | exact svi (by omega) | exact List.mem_cons_self | exact List.mem_cons_of_mem _ List.mem_cons_self | exact List.mem_cons_of_mem _ (List.mem_cons_of_mem _ List.mem_cons_self) | skip)), ⟨by omega, hFg, hM7⟩, by omega⟩)
  · conv => whnf
    obtain ⟨h1, h2⟩ := hge c
    refine EvSplit.ge (fun c => by omega) (fun _ => ?_)
    conv => whnf
    refine EvIdx.one rfl c (by omega) rfl ?_
    conv => whnf
    refine EvLd.blk hM7 (marks_get c h1 h2) ?_
    conv => whnf
    refine EvIf.ff ?_
    conv => whnf
    have ho : x.op = 1 ∨ x.op = 45 ∨ x.op = 4 ∨ x.op = 5 ∨ x.op = 32 ∨ (x.op ≠ 1 ∧ x.op ≠ 45 ∧ x.op ≠ 4 ∧ x.op ≠ 5 ∧ x.op ≠ 32) := by omega
    rcases ho with ho | ho | ho | ho | ho | ho <;> (
      repeat (first
        | (refine EvLd.blk hB7 rfl ?_; conv => whnf)
        | (refine EvSplit.eq (fun _ => ?_) (fun _ => ?_) <;> first | (exfalso; omega) | (conv => whnf))
        | (refine EvSplit.ge (fun _ => ?_) (fun _ => ?_) <;> first | (exfalso; omega) | (conv => whnf))
        | (refine EvIf.eq (fun _ => ?_) (fun _ => ?_) <;> first | (exfalso; omega) | (conv => whnf))
        | (refine EvIf.ge (fun _ => ?_) (fun _ => ?_) <;> first | (exfalso; omega) | (conv => whnf)))
      (refine EvAr.i64 (by omega) ?_; conv => whnf)
      exact ⟨i + 1, by (refine SubS.mk ?_ ?_ <;> (repeat' (first | exact True.intro | refine And.intro ?_ ?_)) <;> (first | rfl | exact svi (by omega) | exact List.mem_cons_self | exact List.mem_cons_of_mem _ List.mem_cons_self | exact List.mem_cons_of_mem _ (List.mem_cons_of_mem _ List.mem_cons_self) | skip)), ⟨by omega, hFg, hM7⟩, by omega⟩)
end Go.Proofs.Tab
