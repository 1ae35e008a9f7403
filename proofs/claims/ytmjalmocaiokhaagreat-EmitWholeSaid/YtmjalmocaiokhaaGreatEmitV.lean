/- Package emit: jumps that are laid, made, Able. No condition. -/
import Derived.Test.YtmjalmocaiokhaaGreatEmitU
set_option linter.unusedVariables false
set_option linter.unusedSimpArgs false
set_option maxRecDepth 100000
namespace Go.Fw
open Go
theorem EvSt.own {w : World} {T n c : Nat} {A : Option Addr} {xs : List Value} {L : List Nat} (h : Own w T 1 (.slice A n c) n xs) {a : Addr} (ha : A = some a) {i : Nat} (hi : i < n) {u : Value} (hu : u.oneCell' = true) (hL : ∀ x ∈ L, x ≠ a.block) {K : World → Prop}
    (k : ∀ w', Fr [a.block] w w' → Own w' T 1 (.slice A n c) n (xs.set i u) → K w') : EvSt w (a.add i) u L K := by
  obtain ⟨h1, h2⟩ := h
  rcases h2 with ⟨h2, _⟩ | ⟨g, cap, cur, e, h3, h4, h5, h6, h7, h8⟩
  · injection h2 with e1 e2 e3; omega
  · injection e with e1 e2 e3
    subst e3 e1
    injection ha with ha
    subst ha
    have hb : HB w g T cur.toList := by unfold HB; simpa using h4
    have hcl : cur.toList.length = c := by simpa using h7
    refine EvSt.blk hb (u := cur.toList[i]'(by omega)) (List.getElem?_eq_getElem _) hu hL fun w' hF hB => k w' hF ⟨by simpa using h1, .inr ⟨g, c, (cur.toList.set i u).toArray, rfl, h3, hB, h5, h6, by simp [hcl], ?_⟩⟩
    rw [← h8]
    simp [List.take_set]
end Go.Fw
namespace Go.Proofs.Tab
open Go Go.Fw

def layM (p : Nat × Nat) (b : List Int) : List Int := (b.set p.1 (u8 ((p.2 : Int).fdiv 256))).set (p.1 + 1) (u8 p.2)
theorem layM_len (p : Nat × Nat) (b : List Int) : (layM p b).length = b.length := by simp [layM]

theorem lay_ok {E : MEnv} {s : Mk} {w : World} {bv lv : Value} {lvs : List Value} (he : ME E w) (h : MB E s w bv lv lvs) {p : Nat × Nat} {rto rm rat : Nat} (ht : HB w rto 3 [.int .i64 p.2]) (hm : HB w rm 86 [kp E.kb]) (ha : HB w rat 3 [.int .i64 p.1])
    (hp : p.1 + 1 < s.b.length) (hbl : s.b.length ≤ 4000000) :
    RetQ Tryz.prog 70 [pt rto, pt rm, pt rat] w fun v w' => v = .tuple #[] ∧ TM E w w' ∧ MB E { s with b := layM p s.b } w' bv lv lvs := by
  obtain ⟨bA, bc, rfl, _, hbs, _⟩ := h.bo.form
  obtain ⟨g, rfl⟩ := hbs (by omega)
  refine fn_goQ (cx_ok 21 []) wideOrders Tryz.func70 rfl rfl Tryz.call70 (by simp [cx]) ?_; conv => whnf
  refine EvDraw.go (fun w' => HB w' rm 86 [kp E.kb] ∧ HB w' E.kb 91 [.slice E.At E.t.length E.ct, .map (some E.ir), .map (some E.xr), .slice (some ⟨g, 0, none⟩) s.b.length bc, .bool s.bad, .map (some E.tr), lv] ∧ HB w' rat 3 [.int .i64 p.1] ∧ HB w' rto 3 [.int .i64 p.2]) (some 19) (.take 0 true (.take 1 true (.take 2 true (.take 3 true (.take 4 true (.take 5 true (.take 6 true (.take 7 true (.take 8 true (.take 9 true (.take 10 true (.take 11 true (.take 12 true (.take 13 true (.take 14 true (.take 15 true (.take 16 true (.exec 17 (.take 18 true (.exec 19 .done)))))))))))))))))))) (by kernel_rfl) ?_ ?_
  · have hFd := Fr.drew w
    exact ⟨hm.fr0 hFd, h.blk.fr0 hFd, ha.fr0 hFd, ht.fr0 hFd⟩
  conv => whnf
  refine ⟨_, fun w' hw => hw.1.1.cell rfl, ?_⟩
  conv => whnf
  refine ⟨_, fun w' hw => hw.1.2.1.add rfl, ?_⟩
  conv => whnf
  refine ⟨_, fun w' hw => hw.1.2.2.1.cell rfl, ?_⟩
  conv => whnf
  refine ⟨_, fun w' hw => hw.1.1.cell rfl, ?_⟩
  conv => whnf
  refine ⟨_, fun w' hw => hw.1.2.1.add rfl, ?_⟩
  conv => whnf
  refine ⟨_, fun w' hw => hw.1.2.2.1.cell rfl, ?_⟩
  conv => whnf
  refine EvAr.i64 (by omega) ?_; conv => whnf
  refine ⟨_, fun w' hw => hw.1.2.2.2.cell rfl, ?_⟩
  conv => whnf
  refine ⟨by omega, ?_⟩
  conv => whnf
  refine ⟨?_⟩
  conv => whnf
  refine ⟨_, fun w' hw => hw.1.2.2.2.cell rfl, ?_⟩
  conv => whnf
  refine ⟨?_⟩
  conv => whnf
  have hFd := Fr.drew w
  refine EvIdx.one (by omega) (by omega) rfl ?_
  rw [Int.toNat_natCast]
  conv => whnf
  refine EvSt.own (h.bo.fr0 hFd) rfl (show p.1 < s.b.length by omega) rfl (by simp [rsOf]) fun w1 hF1 ho1 => ?_
  have ngk : g ≠ E.kb := fun e => h.ne_b (by rw [← e]; rfl)
  have ng : ∀ {r T : Nat} {cs : List Value}, HB w r T cs → T ≠ 5 → r ∉ [g] := fun hb hT => by
    simp; intro e; subst e; exact hT (by have := h.bo.ty (k := _) rfl; rw [hb.ty] at this; injection this)
  have m1 := (hm.fr0 hFd).fr hF1 (ng hm (by decide))
  have k1 := (h.blk.fr0 hFd).fr hF1 (ng h.blk (by decide))
  have a1 := (ha.fr0 hFd).fr hF1 (ng ha (by decide))
  have t1 := (ht.fr0 hFd).fr hF1 (ng ht (by decide))
  conv => whnf
  refine ⟨⟨m1, k1, a1, t1⟩, ?_⟩
  conv => whnf
  refine EvIdx.one (by omega) (by omega) rfl ?_
  rw [show ((p.1 : Int) + 1).toNat = p.1 + 1 by omega]
  conv => whnf
  refine EvSt.own ho1 rfl (show p.1 + 1 < s.b.length by omega) rfl (by simp [rsOf]) fun w2 hF2 ho2 => ?_
  conv => whnf
  have k2 := k1.fr hF2 (by simpa using fun e : E.kb = g => ngk e.symm)
  have tfd : TM E w w.drew := TF.drew w
  have hb0 := h.bB g rfl
  have tf1 : TM E w.drew w1 := TF.fr hF1 fun x hx hl => .inr ⟨by simp at hx; omega, 5, by simp, by simp at hx; subst hx; exact (h.bo.fr0 hFd).ty rfl⟩
  have tf2 : TM E w1 w2 := TF.fr hF2 fun x hx hl => .inr ⟨by simp at hx; omega, 5, by simp, by simp at hx; subst hx; exact ho1.ty rfl⟩
  have tf := (tfd.trans tf1).trans tf2
  refine ⟨rfl, tf, k2, ?_, ?_, h.keep tf, h.bB, h.lB⟩
  · have e1 : (layM p s.b).length = s.b.length := layM_len p s.b
    show Own w2 _ 1 (.slice _ s.b.length bc) (layM p s.b).length ((layM p s.b).map fun n => .int .u8 n)
    rw [e1]
    unfold layM
    rw [List.map_set, List.map_set]
    exact ho2
  · have hne : ∀ k, lv.ownBlock = some k → k ∉ [g] := fun k hk => by simp; rintro rfl; exact h.ne_bl rfl hk
    exact ((h.lo.fr0 hFd).fr hF1 hne).fr hF2 hne

/-- What is made of an ability: its forest; a condition and a block, or a block. -/
def pre0 (P : Pl) (when_ : Bool) (f : Fo) : Mk :=
  if when_ then hereM (holeM (aheadM 31 [] (nthM (ems P f) 0 ⟨[], false, []⟩))) (nthM (ems P f) 1 (aheadM 31 [] (nthM (ems P f) 0 ⟨[], false, []⟩))) else nthM (ems P f) 0 ⟨[], false, []⟩
def made0 (P : Pl) (when_ : Bool) (f : Fo) : Mk := opM 34 [] (pre0 P when_ f)
def layAll (l : List (Nat × Nat)) (b : List Int) : List Int := l.foldl (fun b p => layM p b) b
theorem layAll_len (l : List (Nat × Nat)) : ∀ b, (layAll l b).length = b.length := by
  induction l with
  | nil => intro b; rfl
  | cons p l ih => intro b; exact (ih _).trans (layM_len p b)
theorem layAll_snoc (l : List (Nat × Nat)) (p : Nat × Nat) (b : List Int) : layAll (l ++ [p]) b = layM p (layAll l b) := by unfold layAll; rw [List.foldl_append]; rfl

theorem made0_len (P : Pl) (when_ : Bool) (f : Fo) : (made0 P when_ f).b.length ≤ 25 * f.size + 4 ∧ (made0 P when_ f).later.length ≤ 2 * f.size + 1 := by
  have n0 := nth_gr (ems_gr P f) 0
  have n1 := nth_gr (ems_gr P f) 1
  have h3 := three_le (szs f)
  rw [szs_sum] at h3
  generalize ((szs f)[0]?).getD 0 = a0 at *
  generalize ((szs f)[1]?).getD 0 = a1 at *
  unfold made0 pre0
  have a := n0 ⟨[], false, []⟩
  generalize nthM (ems P f) 0 ⟨[], false, []⟩ = s0 at *
  simp only [List.length_nil] at a
  cases when_
  · rw [if_neg (by simp)]
    have b := len_op 34 [] s0
    simp only [List.length_nil] at b
    omega
  · rw [if_pos rfl]
    have b := len_ahead 31 [] s0
    generalize aheadM 31 [] s0 = s1 at *
    have c := n1 s1
    generalize nthM (ems P f) 1 s1 = s2 at *
    have d := len_here (holeM s1) s2
    generalize hereM (holeM s1) s2 = s3 at *
    have e := len_op 34 [] s3
    simp only [List.length_nil] at b e
    omega

theorem Fr.of_tf {B : Nat} {X 𝒯 : List Nat} {w w1 w2 : World} (h : Fr [] w w1) (k : TF B X 𝒯 w1 w2) (hB : w.heap.size ≤ B) (hX : ∀ x ∈ X, w.heap.size ≤ x) : Fr [] w w2 :=
  ⟨k.os.trans h.os, k.tape.trans h.tape, k.output.trans h.output, Nat.le_trans h.size k.size, fun i hi _ =>
    (k.block i (Nat.lt_of_lt_of_le hi h.size) (fun hm => by have := hX i hm; omega) (.inl (by omega))).trans (h.block i hi (by simp))⟩

set_option maxHeartbeats 4000000 in
theorem made_ok {a : Ab} {As : Option Addr} {cs : Nat} {At : Option Addr} {ct : Nat} {P : Pl} {ir xr : Nat} {f : Fo} {w : World} (ht : NodesAt w At a.tree) (hAl : ∀ x, At = some x → x.block < w.heap.size)
    (hi : HM w ir (fun n : Int => Value.int .i64 n) i64R P.ints) (hx : HM w xr (fun n : ByteArray => Value.string n) i64R P.texts) (hfo : FoAt a.tree 0 f) (hsz : f.size = a.tree.length) (hl : a.tree.length ≤ 2000)
    (hw : ∀ p ∈ wfs f, p) (hf : f.len = if a.when then 2 else 1) (hlat : ∀ p ∈ (made0 P a.when f).later, p.1 + 1 < (made0 P a.when f).b.length) :
    Ret Tryz.prog 22 [.agg (a.cells As cs At ct).toArray, .map (some ir), .map (some xr)] w [] fun v w' => ∃ bv, v = .tuple #[bv, .bool (!(made0 P a.when f).bad)] ∧
      Own w' 5 1 bv (made0 P a.when f).b.length ((layAll (made0 P a.when f).later (made0 P a.when f).b).map fun n => .int .u8 n) ∧ ∀ b, bv.ownBlock = some b → w.heap.size ≤ b := by
  refine fn_go (cx_ok 57 [3]) wideOrders Tryz.func22 rfl rfl Tryz.call22 (by simp [cx]) ?_; conv => whnf
  refine EvNew.blk fun r3 w1 hr3 hz3 hF1 hB1 => ?_
  conv => whnf
  refine EvDraw.go (fun w' => Fr [] w1 w') (some 6) (.take 0 true (.take 1 true (.take 2 true (.take 3 true (.exec 4 (.take 5 true (.exec 6 (.take 7 false .done)))))))) (by kernel_rfl) ?_ ?_
  · exact Fr.drew _
  conv => whnf
  refine ⟨_, fun w' hw => (hB1.fr0 hw.1).add rfl, ?_⟩
  conv => whnf
  refine EvCall.ret0 (table_ok w1.drew) fun v w2 hF2 hq => ?_
  obtain ⟨tr, rfl, htr, htab⟩ := hq
  have hF12 := (Fr.drew w1).trans hF2
  conv => whnf
  refine ⟨hF12, ?_⟩
  conv => whnf
  refine EvNew.blk fun kb w3 hkb hz4 hF3 hB3 => ?_
  conv => whnf
  have hF03 := (hF1.trans hF12).trans hF3
  have hF02 := hF1.trans hF12
  have hB13 := hB1.fr0 (hF12.trans hF3)
  obtain ⟨E, hE⟩ : ∃ E : MEnv, E = ⟨kb, kb, ir, xr, tr, At, ct, a.tree, P⟩ := ⟨_, rfl⟩
  have hs02 := hF02.size
  have hir := hi.lt
  have hxr := hx.lt
  have htab2 : TabOk kb tr w2 := htab kb (by omega)
  have htr2 : tr < kb := by obtain ⟨_, q, _⟩ := htab2; have := q.lt; omega
  have h0 : MK E ⟨[], false, []⟩ w3 := by
    subst hE
    refine ⟨⟨Rows.fr0 ht hF03, fun x hx => ?_, hi.fr0 hF03, hx.fr0 hF03, htab2.tf (X := []) (𝒯 := []) htr2 (by simp) (TF.fr0 hF3), by show ir < kb; omega, by show xr < kb; omega, htr2, Nat.le_refl _, hl⟩, .slice none 0 0, .slice none 0 0, [], hB3, Own.nil, Own.nil, .nil, by simp [Value.ownBlock], by simp [Value.ownBlock]⟩
    have := hAl x hx
    show x.block < kb
    omega
  have hkbE : pt kb = kp E.kb := by subst hE; rfl
  have htE : E.t = a.tree := by subst hE; rfl
  have hPE : E.P = P := by subst hE; rfl
  have hBE : E.B = kb ∧ E.kb = kb := by subst hE; exact ⟨rfl, rfl⟩
  have hr3k : r3 ∉ [E.kb] := by have := hF12.size; rw [hBE.2]; simp; omega
  rw [← htE] at hfo
  have hAtE : E.At = At ∧ E.ct = ct := by subst hE; exact ⟨rfl, rfl⟩
  clear hE
  obtain ⟨hEB, hke⟩ := hBE
  subst hke
  have ihN := node_all f 0 hfo
  have hlen : f.len ≤ 2 := by rw [hf]; split <;> omega
  refine EvLd.blk hB13 rfl ?_
  conv => whnf
  refine EvIf.meet Unit (fun _ => ⟨[(8, .v (kp E.kb))], [], 0⟩) (fun _ w' => TM E w3 w' ∧ MK E (pre0 P a.when f) w') (fun g => ?_) (fun g => ?_) ?_
  · rw [g, if_pos rfl] at hf
    obtain ⟨xc, kc, xb, kb', rfl⟩ : ∃ xc kc xb kb', f = .cons xc kc (.cons xb kb' .nil) := by
      cases f with
      | nil => simp [Fo.len] at hf
      | cons a1 b1 c1 =>
        cases c1 with
        | nil => simp [Fo.len] at hf
        | cons a2 b2 c2 =>
          cases c2 with
          | nil => exact ⟨_, _, _, _, rfl⟩
          | cons a3 b3 c3 => simp only [Fo.len] at hf; omega
    simp only [Fo.size] at hsz
    have g0 := step_gr P xc kc.heads (ems_gr P kc) ⟨[], false, []⟩
    rw [szs_sum] at g0
    simp only [List.length_nil] at g0
    have wc : wfStep xc kc.heads (wfs kc) := hw _ (by simp [wfs])
    have wb : wfStep xb kb'.heads (wfs kb') := hw _ (by simp [wfs])
    conv => whnf
    refine EvCall.retQ0 (ihN 0 0 xc kc rfl wc h0 (by simp; omega) (by simp; omega)) fun v w4 hq => ?_
    obtain ⟨rfl, tf4, h4⟩ := hq
    rw [hPE] at h4
    conv => whnf
    have g1 := len_ahead 31 [] (emStep P xc kc.heads (ems P kc) ⟨[], false, []⟩)
    simp only [List.length_nil] at g1
    refine EvCall.retQ0 (ahead_ok h4 (Fr.refl _ _) (xs := []) Own.nil (by simp [Value.ownBlock]) 31 (by simp; omega)) fun v w5 hq => ?_
    obtain ⟨ho1, tf5, h5⟩ := hq
    obtain ⟨rm1, ra1, rfl, hoA⟩ := ho1.at_
    have tf35 := tf4.trans tf5
    conv => whnf
    refine EvLd.blk (hB13.tf tf35 hr3k (.inr (by decide))) rfl ?_
    conv => whnf
    refine EvCall.ret0 (behind_ok At ct a.tree 0 w5 (by have := h5.env.tree; rwa [hAtE.1, htE] at this) (by omega) (by omega)) fun v w6 hF6 hq => ?_
    obtain ⟨rfl, rfl⟩ := hq
    have hbe : behind a.tree ((0 : Nat) : Int) = ((0 + 1 + kc.size : Nat) : Int) := by
      rw [behind_eq (by omega)]
      rw [endO_fo (by rw [← htE]; exact hfo)]
      rfl
    rw [show behind a.tree 0 = ((0 + 1 + kc.size : Nat) : Int) from hbe]
    conv => whnf
    have g2 := step_gr P xb kb'.heads (ems_gr P kb') (aheadM 31 [] (emStep P xc kc.heads (ems P kc) ⟨[], false, []⟩))
    rw [szs_sum] at g2
    refine EvCall.retQ0 (ihN 1 (0 + 1 + kc.size) xb kb' rfl wb h5 (by omega) (by omega)) fun v w6 hq => ?_
    obtain ⟨rfl, tf6, h6⟩ := hq
    rw [hPE] at h6
    conv => whnf
    refine EvCall.retQ0 ((hoA.tf h5 tf6).here h6 (by omega)) fun v w7 hq => ?_
    obtain ⟨rfl, tf7, h7⟩ := hq
    conv => whnf
    refine Meet.at_ () (by (refine SubS.mk ?_ ?_ <;> (repeat' (first | exact True.intro | refine And.intro ?_ ?_)) <;> (first | rfl | exact svi (by omega) | exact List.mem_cons_self | exact List.mem_cons_of_mem _ List.mem_cons_self | exact List.mem_cons_of_mem _ (List.mem_cons_of_mem _ List.mem_cons_self) | skip))) ⟨(tf35.trans tf6).trans tf7, ?_⟩
    rw [g, pre0, if_pos rfl]
    exact h7
  · rw [g, if_neg (by simp)] at hf
    obtain ⟨xb, kb', rfl⟩ : ∃ xb kb', f = .cons xb kb' .nil := by
      cases f with
      | nil => simp [Fo.len] at hf
      | cons a1 b1 c1 =>
        cases c1 with
        | nil => exact ⟨_, _, rfl⟩
        | cons a2 b2 c2 => simp only [Fo.len] at hf; omega
    simp only [Fo.size] at hsz
    have wb : wfStep xb kb'.heads (wfs kb') := hw _ (by simp [wfs])
    conv => whnf
    refine EvCall.retQ0 (ihN 0 0 xb kb' rfl wb h0 (by simp; omega) (by simp; omega)) fun v w4 hq => ?_
    obtain ⟨rfl, tf4, h4⟩ := hq
    rw [hPE] at h4
    conv => whnf
    refine Meet.at_ () (by (refine SubS.mk ?_ ?_ <;> (repeat' (first | exact True.intro | refine And.intro ?_ ?_)) <;> (first | rfl | exact svi (by omega) | exact List.mem_cons_self | exact List.mem_cons_of_mem _ List.mem_cons_self | exact List.mem_cons_of_mem _ (List.mem_cons_of_mem _ List.mem_cons_self) | skip))) ⟨tf4, ?_⟩
    rw [g, pre0, if_neg (by simp)]
    exact h4
  rintro _ w4 ⟨tf4, h4⟩
  conv => whnf
  have hml := made0_len P a.when f
  have hml4 : (made0 P a.when f).b.length = (pre0 P a.when f).b.length + 1 + ([] : List Int).length := (len_op 34 [] (pre0 P a.when f)).1
  rw [List.length_nil] at hml4
  refine EvCall.retQ0 (op_ok h4 (Fr.refl _ _) (XsAt.nil _ _) 34 (by rw [List.length_nil]; omega)) fun v w5 hq => ?_
  obtain ⟨rfl, tf5, h5⟩ := hq
  change MK E (made0 P a.when f) w5 at h5
  generalize hs : made0 P a.when f = s at *
  obtain ⟨bv, lv, lvs, hm5⟩ := h5.me
  have htf5 := tf4.trans tf5
  conv => whnf
  refine EvLd.blk hm5.blk rfl ?_
  obtain ⟨lA, lc, rfl, _, hlA, _⟩ := hm5.lo.form
  conv => whnf
  refine EvLoop.go Nat (fun k => ⟨[(8, .v (kp E.kb)), (39, .v (.slice lA s.later.length lc)), (40, .v (.int .i64 s.later.length)), (41, .v (.int .i64 k))], [], 0⟩)
    (fun k w' => k ≤ s.later.length ∧ TM E w5 w' ∧ ME E w' ∧ MB E { s with b := layAll (s.later.take k) s.b } w' bv (.slice lA s.later.length lc) lvs) (fun k => s.later.length - k) 0 (by (refine SubS.mk ?_ ?_ <;> (repeat' (first | exact True.intro | refine And.intro ?_ ?_)) <;> (first | rfl | exact svi (by omega) | exact List.mem_cons_self | exact List.mem_cons_of_mem _ List.mem_cons_self | exact List.mem_cons_of_mem _ (List.mem_cons_of_mem _ List.mem_cons_self) | skip))) ⟨by omega, TF.refl _ _ _ _, h5.env, hm5⟩ ?_
  rintro k w6 ⟨hk, tf6, he6, hm6⟩
  conv => whnf
  refine EvIf.lt (fun g => ?_) (fun g => ?_)
  · have hkl : k < s.later.length := by omega
    obtain ⟨gl, rfl⟩ := hlA (by omega)
    have hlvl : lvs.length = s.later.length := by have := hm6.lo.len; simpa using this
    conv => whnf
    refine EvIdx.one (by omega) (by omega) rfl ?_
    rw [Int.toNat_natCast]
    conv => whnf
    refine EvLd.go (hm6.lo.cell (List.getElem?_eq_getElem (show k < lvs.length by omega))) ?_
    obtain ⟨rto, rm, rat, hv, q1, q2, q3⟩ := hm6.la.at_ k _ _ (List.getElem?_eq_getElem (show k < lvs.length by omega)) (List.getElem?_eq_getElem hkl)
    rw [hv]
    conv => whnf
    have hp := hlat s.later[k] (List.getElem_mem _)
    refine EvCall.retQ0 (lay_ok he6 hm6 q1 q2 q3 (by show _ < (layAll _ _).length; rw [layAll_len]; exact hp) (by show (layAll _ _).length ≤ _; rw [layAll_len]; omega)) fun v w7 hq => ?_
    obtain ⟨rfl, tf7, hm7⟩ := hq
    conv => whnf
    refine EvAr.i64 (by omega) ?_; conv => whnf
    refine ⟨k + 1, by (refine SubS.mk ?_ ?_ <;> (repeat' (first | exact True.intro | refine And.intro ?_ ?_)) <;> (first | rfl | exact svi (by omega) | exact List.mem_cons_self | exact List.mem_cons_of_mem _ List.mem_cons_self | exact List.mem_cons_of_mem _ (List.mem_cons_of_mem _ List.mem_cons_self) | skip)), ⟨hkl, tf6.trans tf7, he6.tf tf7, ?_⟩, by omega⟩
    rw [List.take_succ_eq_append_getElem hkl, layAll_snoc]
    exact hm7
  · obtain rfl : k = s.later.length := by omega
    conv => whnf
    rw [List.take_length] at hm6
    have hFd := Fr.drew w6
    refine EvDraw.go (fun w' => Fr [] w6 w') none (.take 0 true (.take 1 true (.take 2 true (.take 3 true (.take 4 true (.take 5 true (.take 6 true (.take 7 true (.take 8 true (.take 9 true (.take 10 true .done))))))))))) (by kernel_rfl) ?_ ?_
    · exact hFd
    conv => whnf
    refine ⟨_, fun w' hw => (hm6.blk.fr0 hw.1).add rfl, ?_⟩
    obtain ⟨bA, bc, rfl, _⟩ := hm6.bo.form
    conv => whnf
    refine ⟨_, fun w' hw => (hm6.blk.fr0 hw.1).add rfl, ?_⟩
    conv => whnf
    have hB0 : w.heap.size ≤ E.kb := by omega
    refine ⟨Fr.of_tf hF03 ((htf5.trans tf6).trans (TF.drew w6)) (by omega) (by simp; omega), _, rfl, ?_, fun b hb => by have := hm6.bB b hb; omega⟩
    have := hm6.bo.fr0 hFd
    have e : (layAll s.later s.b).length = s.b.length := layAll_len _ _
    have e2 : ({ s with b := layAll s.later s.b } : Mk).b.length = s.b.length := e
    rw [e2]
    rw [e2] at this
    exact this
end Go.Proofs.Tab
