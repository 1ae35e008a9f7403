/- Package check: all statements, slices.Equal, Able. No condition. -/
import Derived.Test.YtmjalmocaiokhaaGreatCheckM
import Derived.Test.YtmjalmocaiokhaaGreatFwT
set_option linter.unusedVariables false
set_option linter.unusedSimpArgs false
set_option maxRecDepth 100000
namespace Go.Proofs.Tab
open Go Go.Fw

theorem stm_all {t : List Nd} (ht : t.length ≤ 2000) (hsm : ∀ p (hp : p < t.length), t[p].text.size ≤ 140737488355328) : ∀ (f : Fo) (i : Nat), FoAt t i f → ∀ (j p : Nat) y kk, (f.at_ i)[j]? = some (p, y, kk) → Stm t p y kk ∧ Blk t p y kk
  | .nil, _, _, _, _, _, _, h => by simp [Fo.at_] at h
  | .cons x ks r, i, hf, 0, p, y, kk, h => by
    simp [Fo.at_] at h
    obtain ⟨rfl, rfl, rfl⟩ := h
    have ih := stm_all ht hsm ks (i + 1) hf.2.2.1
    exact ⟨@stmt_step _ _ _ _ _ hf ht hsm (expr_all ht hsm ks (i + 1) hf.2.2.1) (fun j p y kk h => (ih j p y kk h).1) (fun j p y kk h => (ih j p y kk h).2), @block_step _ _ _ _ _ hf ht (fun j p y kk h => (ih j p y kk h).1)⟩
  | .cons x ks r, i, hf, j + 1, p, y, kk, h => stm_all ht hsm r _ hf.2.2.2 j p y kk (by simpa [Fo.at_] using h)

theorem FoAt.uniq {t : List Nd} : ∀ {f f' : Fo} {i : Nat}, FoAt t i f → FoAt t i f' → f.len = f'.len → f = f'
  | .nil, .nil, _, _, _, _ => rfl
  | .nil, .cons _ _ r, _, _, _, h => by simp only [Fo.len] at h; omega
  | .cons _ _ r, .nil, _, _, _, h => by simp only [Fo.len] at h; omega
  | .cons x ks r, .cons x' ks' r', i, h, h', hl => by
    obtain ⟨a1, a2, a3, a4⟩ := h
    obtain ⟨b1, b2, b3, b4⟩ := h'
    have hx : x = x' := by rw [a1] at b1; injection b1
    subst hx
    have hk := FoAt.uniq a3 b3 (by omega)
    subst hk
    have hr := FoAt.uniq a4 b4 (by simp only [Fo.len] at hl; omega)
    rw [hr]

theorem SmallsAt.idx {w : World} {A : Option Addr} {l : List Int} (h : SmallsAt w A l) {n sz i : Nat} {K : Addr → Prop} (h1 : i < l.length) (hn : n = l.length) (hs : sz = 1) (k : ∀ a, A = some a → K (a.add i)) : EvIdx A n (i : Int) sz K := by
  obtain ⟨a, ha, _⟩ := Rows.at_ h (by rw [List.length_map]; omega)
  exact ⟨a, ha, by omega, by omega, by rw [hs, Int.toNat_natCast, Nat.mul_one]; exact k a ha⟩
theorem SmallsAt.cell {w : World} {A : Option Addr} {l : List Int} (h : SmallsAt w A l) {a : Addr} (ha : A = some a) {i : Nat} (hi : i < l.length) : w.cell? (a.add i) = some (.int .i8 l[i]) := by
  have := Rows.cell h ha (i := i) (j := 0) (r := [.int .i8 l[i]]) (v := .int .i8 l[i]) (by rw [List.getElem?_map, List.getElem?_eq_getElem hi]; rfl) rfl
  simpa using this

theorem equalS_ok (A B : Option Addr) (c d : Nat) (l m : List Int) (w : World) (hl : SmallsAt w A l) (hm : SmallsAt w B m) (hn : l.length ≤ 1073741824) (hn2 : m.length ≤ 1073741824) :
    Ret Tryz.prog 37 [.slice A l.length c, .slice B m.length d] w [] fun v w' => ∃ r, v = .bool r ∧ (r = true ↔ l = m) := by
  refine fn_go (cx_ok 26 []) wideOrders Tryz.func37 rfl rfl Tryz.call37 (by simp [cx]) ?_; conv => whnf
  refine EvIf.ne (fun h1 => ?_) (fun h1 => ?_)
  · conv => whnf
    exact ⟨Fr.refl _ _, false, rfl, by simp; rintro rfl; exact h1 rfl⟩
  have hlen : l.length = m.length := by omega
  conv => whnf
  refine EvLoop.go Nat (fun i => ⟨[(0, .v (.slice A l.length c)), (1, .v (.slice B m.length d)), (12, .v (.int .i64 l.length)), (13, .v (.int .i64 i))], [], 0⟩) (fun i w' => Fr [] w w' ∧ i ≤ l.length ∧ l.take i = m.take i) (fun i => l.length - i) 0 (by (refine SubS.mk ?_ ?_ <;> (repeat' (first | exact True.intro | refine And.intro ?_ ?_)) <;> (first | rfl | exact svi (by omega) | exact List.mem_cons_self | exact List.mem_cons_of_mem _ List.mem_cons_self | exact List.mem_cons_of_mem _ (List.mem_cons_of_mem _ List.mem_cons_self) | skip))) ⟨Fr.refl _ _, by omega, by simp⟩ ?_
  rintro i w2 ⟨hF, hi, he⟩
  conv => whnf
  refine EvIf.lt (fun g => ?_) (fun g => ?_)
  rotate_left
  · conv => whnf
    obtain rfl : i = l.length := by omega
    refine ⟨hF, true, rfl, by simp; rw [List.take_length] at he; rw [he, List.take_of_length_le (by omega)]⟩
  have hil : i < l.length := by omega
  have him : i < m.length := by omega
  conv => whnf
  refine EvDraw.go (fun w' => Fr [] w2 w') none (.take 0 true (.take 1 true (.take 2 true (.take 3 true (.take 4 true (.take 5 true (.take 6 true (.take 7 true (.take 8 true .done))))))))) (by kernel_rfl) ?_ ?_
  · exact Fr.drew _
  conv => whnf
  refine SmallsAt.idx (Rows.fr0 hl hF) hil rfl rfl fun a ha => ?_
  conv => whnf
  refine ⟨_, fun w' hw => SmallsAt.cell (Rows.fr0 (Rows.fr0 hl hF) hw.1) ha hil, ?_⟩
  conv => whnf
  refine SmallsAt.idx (Rows.fr0 hm hF) him rfl rfl fun b hb => ?_
  conv => whnf
  refine ⟨_, fun w' hw => SmallsAt.cell (Rows.fr0 (Rows.fr0 hm hF) hw.1) hb him, ?_⟩
  conv => whnf
  refine EvIf.ne (fun h2 => ?_) (fun h2 => ?_)
  · conv => whnf
    refine ⟨hF.trans (Fr.drew _), false, rfl, by simp; rintro rfl; exact h2 rfl⟩
  · conv => whnf
    refine EvAr.i64 (by omega) ?_; conv => whnf
    refine ⟨i + 1, by (refine SubS.mk ?_ ?_ <;> (repeat' (first | exact True.intro | refine And.intro ?_ ?_)) <;> (first | rfl | exact svi (by omega) | exact List.mem_cons_self | exact List.mem_cons_of_mem _ List.mem_cons_self | exact List.mem_cons_of_mem _ (List.mem_cons_of_mem _ List.mem_cons_self) | skip)), ⟨hF.trans (Fr.drew _), hil, ?_⟩, by omega⟩
    rw [List.take_succ_eq_append_getElem hil, List.take_succ_eq_append_getElem him, he, h2]

def seen0 : Int → Option Bool := setF (setF (fun _ => none) 0 (some false)) 1 (some false)
def semA : Bool → Fo → Option St2
  | true, .cons xc kc (.cons xb kb .nil) => if valueL (stepE [3, 4] seen0 xc kc.heads (exprs [3, 4] seen0 kc)) 2 then blockB xb kb.heads (sem kb) ([3, 4], seen0) else none
  | false, .cons xb kb .nil => blockB xb kb.heads (sem kb) ([3, 4], seen0)
  | _, _ => none
structure AbleP (a : Ab) (f : Fo) : Prop where
  on0 : 0 ≤ a.on
  on4 : a.on ≤ 4
  sl : a.slots.length ≤ 32
  tl : a.tree.length ≤ 2000
  fo : FoAt a.tree 0 f
  sz : f.size = a.tree.length
  len : f.len = if a.when then 2 else 1
  sem : ∃ se, semA a.when f = some (a.slots, se)

def blockAt (a : Ab) : Int := if a.when then behind a.tree 0 else 0
theorem FoAt.snoc {t : List Nd} {x : Nd} {ks r : Fo} {i : Nat} (h : FoAt t i (.cons x ks .nil)) (h' : FoAt t (i + 1 + ks.size) r) : FoAt t i (.cons x ks r) := ⟨h.1, h.2.1, h.2.2.1, h'⟩
theorem behind_some {t : List Nd} {b : Int} {e : Nat} (h0 : 0 ≤ b) (h : behind t b = e) : ∃ x ks, FoAt t b.toNat (.cons x ks .nil) ∧ e = b.toNat + 1 + ks.size := by
  obtain ⟨n, rfl⟩ : ∃ n : Nat, b = n := ⟨b.toNat, by omega⟩
  have hlt : n < t.length := by
    rcases Nat.lt_or_ge n t.length with h1 | h1
    · exact h1
    · unfold behind at h
      rw [if_pos (.inr (by omega))] at h; omega
  rw [behind_eq hlt] at h
  cases he : endO t n with
  | none => rw [he] at h; simp [optI] at h
  | some p =>
    rw [he] at h
    obtain ⟨x, ks, h1, h2⟩ := fo_of_end he
    refine ⟨x, ks, h1, ?_⟩
    simp only [optI] at h
    simp only [Int.toNat_natCast]; omega
theorem behind_at {t : List Nd} {x : Nd} {ks r : Fo} {i : Nat} (h : FoAt t i (.cons x ks r)) : behind t i = ((i + 1 + ks.size : Nat) : Int) := by
  rw [behind_eq h.lt, endO_fo h]; rfl
theorem able_split {a : Ab} {f : Fo} (h : AbleP a f) : (a.when = true ∧ ∃ xc kc xb kb, f = .cons xc kc (.cons xb kb .nil) ∧ blockAt a = ((0 + 1 + kc.size : Nat) : Int)) ∨ (a.when = false ∧ ∃ xb kb, f = .cons xb kb .nil ∧ blockAt a = 0) := by
  have hl := h.len
  cases hw : a.when
  · right
    rw [hw] at hl
    refine ⟨rfl, ?_⟩
    match f, hl with
    | .cons xb kb .nil, _ => exact ⟨xb, kb, rfl, by simp [blockAt, hw]⟩
    | .nil, hl => simp [Fo.len] at hl
    | .cons _ _ (.cons _ _ r), hl => simp only [Fo.len] at hl; simp at hl
  · left
    rw [hw] at hl
    refine ⟨rfl, ?_⟩
    match f, hl, h.fo with
    | .cons xc kc (.cons xb kb .nil), _, hf => exact ⟨xc, kc, xb, kb, rfl, by simp only [blockAt, hw, if_true]; exact behind_at hf⟩
    | .nil, hl, _ => simp [Fo.len] at hl
    | .cons _ _ .nil, hl, _ => simp [Fo.len] at hl
    | .cons _ _ (.cons _ _ (.cons _ _ r)), hl, _ => simp only [Fo.len] at hl; simp at hl; omega
theorem able_block {a : Ab} {f : Fo} (h : AbleP a f) : 0 ≤ blockAt a ∧ behind a.tree (blockAt a) = a.tree.length := by
  have hs := h.sz
  rcases able_split h with ⟨hw, xc, kc, xb, kb, rfl, hb⟩ | ⟨hw, xb, kb, rfl, hb⟩
  · rw [hb]
    refine ⟨by omega, ?_⟩
    rw [behind_at h.fo.2.2.2]
    simp only [Fo.size] at hs
    omega
  · rw [hb]
    refine ⟨by omega, ?_⟩
    have := behind_at h.fo
    rw [show (0 : Int) = ((0 : Nat) : Int) from rfl, this]
    simp only [Fo.size] at hs
    omega
theorem able_fo {a : Ab} (h0 : 0 ≤ blockAt a) (h1 : behind a.tree (blockAt a) = a.tree.length) : ∃ f, FoAt a.tree 0 f ∧ f.size = a.tree.length ∧ f.len = (if a.when then 2 else 1) ∧
    ((a.when = true ∧ ∃ xc kc xb kb, f = .cons xc kc (.cons xb kb .nil) ∧ blockAt a = ((0 + 1 + kc.size : Nat) : Int)) ∨ (a.when = false ∧ ∃ xb kb, f = .cons xb kb .nil ∧ blockAt a = 0)) := by
  obtain ⟨xb, kb, g1, g2⟩ := behind_some h0 h1
  cases hw : a.when
  · have hb : blockAt a = 0 := by simp [blockAt, hw]
    rw [hb] at g1 g2
    exact ⟨_, g1, by simp only [Fo.size]; simp at g2; omega, rfl, .inr ⟨rfl, xb, kb, rfl, hb⟩⟩
  · have hb : blockAt a = behind a.tree 0 := by simp [blockAt, hw]
    obtain ⟨e, he⟩ : ∃ e : Nat, behind a.tree 0 = e := ⟨(behind a.tree 0).toNat, by omega⟩
    obtain ⟨xc, kc, k1, k2⟩ := behind_some (b := 0) (by omega) he
    rw [hb, he] at g1 g2
    simp only [Int.toNat_natCast] at g1 g2
    have k2' : e = 0 + 1 + kc.size := by simpa using k2
    subst k2'
    refine ⟨.cons xc kc (.cons xb kb .nil), FoAt.snoc k1 g1, by simp only [Fo.size]; omega, rfl, .inl ⟨rfl, xc, kc, xb, kb, rfl, by rw [hb, he]⟩⟩

theorem able_ok {a : Ab} {As : Option Addr} {cs : Nat} {At : Option Addr} {ct : Nat} {w : World} (hS : SmallsAt w As a.slots) (hT : NodesAt w At a.tree) (hAl : ∀ x, At = some x → x.block < w.heap.size) (hsm : SmAb a) :
    Ret Tryz.prog 21 [.agg (a.cells As cs At ct).toArray] w [] fun v w' => ∃ r, v = .bool r ∧ (r = true ↔ ∃ f, AbleP a f) := by
  refine fn_go (cx_ok 75 [1, 31]) wideOrders Tryz.func21 rfl rfl Tryz.call21 (by simp [cx]) ?_; conv => whnf
  refine EvNew.blk fun r1 w1 hr1 hz1 hF1 hB1 => ?_
  conv => whnf
  have no : ∀ {w' : World}, Fr [] w w' → (∀ f, ¬ AbleP a f) → Fr [] w w' ∧ ∃ r, Value.bool false = .bool r ∧ (r = true ↔ ∃ f, AbleP a f) := fun h1 h2 => ⟨h1, false, rfl, by simp; exact h2⟩
  refine EvLd.blk hB1 rfl ?_
  conv => whnf
  refine EvSplit.lt (fun c1 => ?_) (fun c1 => ?_)
  · conv => whnf
    exact no hF1 fun f h => by have := h.on0; omega
  conv => whnf
  refine EvLd.blk hB1 rfl ?_
  conv => whnf
  refine EvSplit.gt (fun c2 => ?_) (fun c2 => ?_)
  · conv => whnf
    exact no hF1 fun f h => by have := h.on4; omega
  conv => whnf
  refine EvLd.blk hB1 rfl ?_
  conv => whnf
  refine EvSplit.gt (fun c3 => ?_) (fun c3 => ?_)
  · conv => whnf
    exact no hF1 fun f h => by have := h.sl; omega
  conv => whnf
  refine EvLd.blk hB1 rfl ?_
  conv => whnf
  refine EvIf.gt (fun c4 => ?_) (fun c4 => ?_)
  · conv => whnf
    exact no hF1 fun f h => by have := h.tl; omega
  have htl : a.tree.length ≤ 2000 := by omega
  have htx : ∀ p (hp : p < a.tree.length), a.tree[p].text.size ≤ 140737488355328 := fun p hp => hsm.2.2 _ (List.getElem_mem hp)
  conv => whnf
  refine EvLd.blk hB1 rfl ?_
  conv => whnf
  refine EvNew.blk fun rs w2 hrs hz2 hF2 hB2 => ?_
  conv => whnf
  refine EvPrim.mkMap (ek := fun n : Int => Value.int .i64 n) (R := seenR) fun mr w3 hmr hz3 hF3 hM3 => ?_
  conv => whnf
  refine EvDo.upd (b := false) (cx_ok 0 []) rfl (KeyCls.int rfl) (Ky.int .i64) hM3 0 rfl (by simp [rsOf]) fun w4 hF4 hM4 => ?_
  conv => whnf
  refine EvDo.upd (b := false) (cx_ok 0 []) rfl (KeyCls.int rfl) (Ky.int .i64) hM4 1 rfl (by simp [rsOf]) fun w5 hF5 hM5 => ?_
  conv => whnf
  refine EvNew.blk fun kb w6 hkb hz6 hF6 hB6 => ?_
  have hs1 := hF1.size
  have hs4 := hF4.size
  have hs5 := hF5.size
  have hs6 := hF6.size
  have hF25 : Fr [] w2 w5 := (hF3.trans' hF4 (by simp; omega)).trans' hF5 (by simp; omega)
  have hF06 : Fr [] w w6 := ((hF1.trans hF2).trans hF25).trans hF6
  have hF16 : Fr [] w1 w6 := (hF2.trans hF25).trans hF6
  have hF26 : Fr [] w2 w6 := hF25.trans hF6
  have h6 : LK w.heap.size kb mr At ct a.tree (.slice (some ⟨rs, 0, none⟩) 2 2) ⟨[3, 4], seen0, false⟩ w6 := by
    refine ⟨hB6, Rows.fr0 hT hF06, hAl, HB.own (hB2.fr0 hF26) rfl (by simp [maxLen]), hM5.fr0 hF6, by omega, by omega, fun b hb => ?_⟩
    have e : rs = b := by simpa [Value.ownBlock] using hb
    omega
  have hsi : SeenIn ⟨[3, 4], seen0, false⟩ := by
    intro k b hk
    have hk' : seen0 k = some b := hk
    unfold seen0 setF at hk'
    show 0 ≤ k ∧ k < 2
    split at hk'
    · omega
    · split at hk'
      · omega
      · cases hk'
  have hB16 := hB1.fr0 hF16
  conv => whnf
  -- the block's place
  refine EvLd.blk hB16 rfl ?_
  conv => whnf
  refine EvIf.meet Int (fun b => ⟨[(1, .v (kp r1)), (3, .v (kp kb)), (4, .v (.int .i64 b))], [], 0⟩) (fun b w' => w' = w6 ∧ b = if a.when then behind a.tree 0 else 0) (fun g => ?_) (fun g => ?_) ?_
  · conv => whnf
    refine EvLd.blk hB16 rfl ?_
    conv => whnf
    refine EvCall.ret0 (behind_ok At ct a.tree 0 w6 h6.tree (by omega) (by omega)) fun v w7 hF7 hq => ?_
    obtain ⟨rfl, rfl⟩ := hq
    conv => whnf
    refine Meet.at_ (behind a.tree 0) (by (refine SubS.mk ?_ ?_ <;> (repeat' (first | exact True.intro | refine And.intro ?_ ?_)) <;> (first | rfl | exact svi (by omega) | exact List.mem_cons_self | exact List.mem_cons_of_mem _ List.mem_cons_self | exact List.mem_cons_of_mem _ (List.mem_cons_of_mem _ List.mem_cons_self) | skip))) ⟨rfl, by rw [if_pos g]⟩
  · conv => whnf
    refine Meet.at_ 0 (by (refine SubS.mk ?_ ?_ <;> (repeat' (first | exact True.intro | refine And.intro ?_ ?_)) <;> (first | rfl | exact svi (by omega) | exact List.mem_cons_self | exact List.mem_cons_of_mem _ List.mem_cons_self | exact List.mem_cons_of_mem _ (List.mem_cons_of_mem _ List.mem_cons_self) | skip))) ⟨rfl, by rw [if_neg (by simp [g])]⟩
  rintro bl w7 ⟨rfl, hbl⟩
  change bl = blockAt a at hbl
  subst hbl
  have hFd := Fr.drew w7
  conv => whnf
  refine EvDraw.go (fun w' => Fr [] w7 w') none (.take 0 true (.take 1 true (.take 2 true (.take 3 true (.take 4 true (.take 5 true (.take 7 true (.take 8 true (.take 9 true (.exec 6 (.take 10 true (.take 11 true .done)))))))))))) (by kernel_rfl) ?_ ?_
  · exact hFd
  conv => whnf
  refine EvSplit.lt (fun d1 => ?_) (fun d1 => ?_)
  · conv => whnf
    refine ⟨hFd, ?_⟩
    conv => whnf
    exact no (hF06.trans hFd) fun f h => by have := (able_block h).1; omega
  conv => whnf
  refine ⟨_, fun w' hw => (hB16.fr0 hw.1).add rfl, ?_⟩
  conv => whnf
  refine ⟨_, fun w' hw => (hB16.fr0 hw.1).add rfl, ?_⟩
  conv => whnf
  refine EvCall.ret0 (behind_ok At ct a.tree (blockAt a) w7.drew (Rows.fr0 h6.tree hFd) (by omega) (by omega)) fun v w8 hF8 hq => ?_
  obtain ⟨rfl, rfl⟩ := hq
  conv => whnf
  refine ⟨hFd, ?_⟩
  conv => whnf
  refine EvIf.ne (fun d2 => ?_) (fun d2 => ?_)
  · conv => whnf
    exact no (hF06.trans hFd) fun f h => d2 (able_block h).2
  obtain ⟨f, hfo, hfs, hfl, hsp⟩ := able_fo d1 d2
  have huq : ∀ f', AbleP a f' → f' = f := fun f' h' => FoAt.uniq h'.fo hfo (by rw [h'.len, hfl])
  have hE := expr_all htl htx f 0 hfo
  have hSt := stm_all htl htx f 0 hfo
  have h8 := h6.fr0 hFd
  have hF08 := hF06.trans hFd
  have hB18 := hB16.fr0 hFd
  have hs08 := hF08.size
  have hs8 := hFd.size
  have hkr1 : r1 ≠ kb := by omega
  -- the end: what is known of the looker, then slices.Equal
  have hmr : mr < w7.heap.size := by omega
  rcases hsp with ⟨hw, xc, kc, xb, kb', rfl, hbl⟩ | ⟨hw, xb, kb', rfl, hbl⟩
  · conv => whnf
    refine EvLd.blk hB18 rfl ?_
    rw [hw, hbl]
    conv => whnf
    refine EvIf.tt ?_
    conv => whnf
    refine EvCall.ret (value_ok (hE 0 0 xc kc rfl) h8 hsi (by simp) 2) (by simp [rsOf]) fun v w9 hF9 h9 => ?_
    have hB19 := hB18.fr hF9 (by simpa using hkr1)
    have hF09 : Fr [] w w9 := hF08.trans' hF9 (by simp; omega)
    generalize hv : valueL (stepE [3, 4] seen0 xc kc.heads (exprs [3, 4] seen0 kc)) 2 = bv at h9
    conv => whnf
    refine EvLd.blk h9.blk rfl ?_
    conv => whnf
    have hse : semA a.when (.cons xc kc (.cons xb kb' .nil)) = if bv then blockB xb kb'.heads (sem kb') ([3, 4], seen0) else none := by rw [hw]; show (if valueL _ 2 then _ else _) = _; rw [hv]
    cases bv
    · refine EvIf.ff ?_
      conv => whnf
      refine EvDraw.go (fun w' => Fr [] w9 w') (some 12) (.take 0 true (.take 1 true (.take 2 true (.take 3 true (.take 4 true (.take 5 true (.take 6 true (.take 7 true (.take 8 true (.take 9 true (.take 10 true (.take 11 true (.exec 12 (.take 13 false (.take 14 false .done))))))))))))))) (by kernel_rfl) ?_ ?_
      · exact Fr.drew _
      conv => whnf
      refine ⟨_, fun w' hw => (h9.blk.fr0 hw.1).add rfl, ?_⟩
      conv => whnf
      refine EvSplit.ff ?_
      conv => whnf
      refine no (hF09.trans (Fr.drew _)) fun f' h' => ?_
      obtain ⟨se, hse'⟩ := h'.sem
      rw [huq f' h', hse] at hse'
      cases hse'
    · refine EvIf.tt ?_
      rw [mustL_true] at h9
      conv => whnf
      refine EvCall.ret ((hSt 1 (0 + 1 + kc.size) xb kb' rfl).2 h9 hsi (by show 2 ≤ _; omega) rfl) (by simp [rsOf]) fun v w10 hF10 hq => ?_
      obtain ⟨vs', s', h10, kv10, hres, hsi10, hl10⟩ := hq
      have hF0x : Fr [] w w10 := hF09.trans' hF10 (by simp [Value.ownBlock]; omega)
      have hr := hres.2 rfl
      change match blockB xb kb'.heads (sem kb') ([3, 4], seen0) with | some q => s' = ⟨q.1, q.2, false⟩ | none => s'.bad = true at hr
      have hB1x := hB19.fr hF10 (by simp [Value.ownBlock]; omega)
      simp only [Fo.size] at hfs
      conv => whnf
      refine EvDraw.go (fun w' => Fr [] w10 w') (some 12) (.take 0 true (.take 1 true (.take 2 true (.take 3 true (.take 4 true (.take 5 true (.take 6 true (.take 7 true (.take 8 true (.take 9 true (.take 10 true (.take 11 true (.exec 12 (.take 13 false (.take 14 false .done))))))))))))))) (by kernel_rfl) ?_ ?_
      · exact Fr.drew _
      conv => whnf
      refine ⟨_, fun w' hw => (h10.blk.fr0 hw.1).add rfl, ?_⟩
      conv => whnf
      refine EvSplit.not (fun e1 => ?_) (fun e1 => ?_)
      · conv => whnf
        refine ⟨_, fun w' hw => (h10.blk.fr0 hw.1).add rfl, ?_⟩
        obtain ⟨A2, c2, rfl, _⟩ := h10.own.form
        conv => whnf
        refine ⟨_, fun w' hw => (hB1x.fr0 hw.1).add rfl, ?_⟩
        conv => whnf
        have hSx : SmallsAt w10.drew A2 s'.slots := Own.rows (h10.own.fr0 (Fr.drew _)) (flat_one _ _).symm (by simp) (by simp)
        refine EvCall.ret0 (equalS_ok A2 As c2 cs s'.slots a.slots w10.drew hSx (Rows.fr0 (Rows.fr0 hS hF0x) (Fr.drew _)) (by omega) (by omega)) fun v w11 hF11 hq => ?_
        obtain ⟨rr, rfl, hrr⟩ := hq
        conv => whnf
        refine ⟨(hF0x.trans (Fr.drew _)).trans hF11, rr, rfl, hrr.trans ⟨fun e => ⟨_, ⟨by omega, by omega, by omega, htl, hfo, by simp only [Fo.size]; exact hfs, hfl, ?_⟩⟩, fun ⟨f', h'⟩ => ?_⟩⟩
        · rw [hse]
          cases hb : blockB xb kb'.heads (sem kb') ([3, 4], seen0) with
          | none => rw [hb] at hr; rw [show s'.bad = true from hr] at e1; cases e1
          | some q =>
            rw [hb] at hr
            subst hr
            refine ⟨q.2, ?_⟩
            try rw [if_pos rfl]
            have e' : q.1 = a.slots := e
            rw [← e']
        · obtain ⟨se, hse'⟩ := h'.sem
          rw [huq f' h', hse] at hse'
          try simp only [if_true] at hse'
          rw [hse'] at hr
          subst hr
          rfl
      · conv => whnf
        refine no (hF0x.trans (Fr.drew _)) fun f' h' => ?_
        obtain ⟨se, hse'⟩ := h'.sem
        rw [huq f' h', hse] at hse'
        try simp only [if_true] at hse'
        rw [hse'] at hr
        subst hr
        cases e1
  · conv => whnf
    refine EvLd.blk hB18 rfl ?_
    rw [hw, hbl]
    conv => whnf
    refine EvIf.ff ?_
    conv => whnf
    refine EvLd.blk h8.blk rfl ?_
    conv => whnf
    refine EvIf.tt ?_
    have hse : semA a.when (.cons xb kb' .nil) = blockB xb kb'.heads (sem kb') ([3, 4], seen0) := by rw [hw]; rfl
    have hB19 := hB18
    have hF09 := hF08
    conv => whnf
    refine EvCall.ret ((hSt 0 0 xb kb' rfl).2 h8 hsi (by show 2 ≤ _; omega) rfl) (by simp [rsOf]) fun v w10 hF10 hq => ?_
    obtain ⟨vs', s', h10, kv10, hres, hsi10, hl10⟩ := hq
    have hF0x : Fr [] w w10 := hF09.trans' hF10 (by simp [Value.ownBlock]; omega)
    have hr := hres.2 rfl
    change match blockB xb kb'.heads (sem kb') ([3, 4], seen0) with | some q => s' = ⟨q.1, q.2, false⟩ | none => s'.bad = true at hr
    have hB1x := hB19.fr hF10 (by simp [Value.ownBlock]; omega)
    simp only [Fo.size] at hfs
    conv => whnf
    refine EvDraw.go (fun w' => Fr [] w10 w') (some 12) (.take 0 true (.take 1 true (.take 2 true (.take 3 true (.take 4 true (.take 5 true (.take 6 true (.take 7 true (.take 8 true (.take 9 true (.take 10 true (.take 11 true (.exec 12 (.take 13 false (.take 14 false .done))))))))))))))) (by kernel_rfl) ?_ ?_
    · exact Fr.drew _
    conv => whnf
    refine ⟨_, fun w' hw => (h10.blk.fr0 hw.1).add rfl, ?_⟩
    conv => whnf
    refine EvSplit.not (fun e1 => ?_) (fun e1 => ?_)
    · conv => whnf
      refine ⟨_, fun w' hw => (h10.blk.fr0 hw.1).add rfl, ?_⟩
      obtain ⟨A2, c2, rfl, _⟩ := h10.own.form
      conv => whnf
      refine ⟨_, fun w' hw => (hB1x.fr0 hw.1).add rfl, ?_⟩
      conv => whnf
      have hSx : SmallsAt w10.drew A2 s'.slots := Own.rows (h10.own.fr0 (Fr.drew _)) (flat_one _ _).symm (by simp) (by simp)
      refine EvCall.ret0 (equalS_ok A2 As c2 cs s'.slots a.slots w10.drew hSx (Rows.fr0 (Rows.fr0 hS hF0x) (Fr.drew _)) (by omega) (by omega)) fun v w11 hF11 hq => ?_
      obtain ⟨rr, rfl, hrr⟩ := hq
      conv => whnf
      refine ⟨(hF0x.trans (Fr.drew _)).trans hF11, rr, rfl, hrr.trans ⟨fun e => ⟨_, ⟨by omega, by omega, by omega, htl, hfo, by simp only [Fo.size]; exact hfs, hfl, ?_⟩⟩, fun ⟨f', h'⟩ => ?_⟩⟩
      · rw [hse]
        cases hb : blockB xb kb'.heads (sem kb') ([3, 4], seen0) with
        | none => rw [hb] at hr; rw [show s'.bad = true from hr] at e1; cases e1
        | some q =>
          rw [hb] at hr
          subst hr
          refine ⟨q.2, ?_⟩
          try rw [if_pos rfl]
          have e' : q.1 = a.slots := e
          rw [← e']
      · obtain ⟨se, hse'⟩ := h'.sem
        rw [huq f' h', hse] at hse'
        try simp only [if_true] at hse'
        rw [hse'] at hr
        subst hr
        rfl
    · conv => whnf
      refine no (hF0x.trans (Fr.drew _)) fun f' h' => ?_
      obtain ⟨se, hse'⟩ := h'.sem
      rw [huq f' h', hse] at hse'
      try simp only [if_true] at hse'
      rw [hse'] at hr
      subst hr
      cases e1
end Go.Proofs.Tab
