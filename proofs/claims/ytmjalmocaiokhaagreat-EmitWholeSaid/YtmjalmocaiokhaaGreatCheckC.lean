/- Package check: the walk of call. No condition. -/
import Derived.Test.YtmjalmocaiokhaaGreatCheckS
set_option linter.unusedVariables false
set_option linter.unusedSimpArgs false
set_option maxRecDepth 100000
namespace Go.Proofs.Tab
open Go Go.Fw
theorem drop_get {α : Type} {l : List α} {j : Nat} {a : α} (h : l[j]? = some a) : l.drop j = a :: l.drop (j + 1) := by
  obtain ⟨h1, h2⟩ := List.getElem?_eq_some_iff.1 h
  rw [List.drop_eq_getElem_cons h1, h2]

theorem flag_step {fl c : Bool} {X Y Z : Option Int} (hfl : Z = if fl then X else none) (e0 : X = if c = true then Y else none) : Z = if (fl && c) = true then Y else none := by
  subst hfl e0; cases fl <;> cases c <;> rfl
structure CInv (t : List Nd) (B kb mr : Nat) (At : Option Addr) (ct : Nat) (vs : Value) (s : Lk) (w0 : World) (i n : Nat) (F : Int → Int → Nat → Option Int) (j : Nat) (v h : Int) (w : World) : Prop where
  fr : Fr [kb] w0 w
  le : j ≤ n
  v0 : 0 ≤ v
  vj : v ≤ j
  h0 : 0 ≤ h
  hh : h ≤ t.length - i - 1
  lk : ∃ fl, LK B kb mr At ct t vs (mustL fl s) w ∧ F 0 0 0 = if fl then F v h j else none

section
variable {t : List Nd} {B kb mr : Nat} {At : Option Addr} {ct : Nat} {vs : Value} {s : Lk} {w0 : World}

set_option maxHeartbeats 4000000 in
theorem call_ok {i : Nat} {x : Nd} {ks r : Fo} (hfo : FoAt t i (.cons x ks r)) (ht : t.length ≤ 2000) (ih : ∀ (j p : Nat) y kk, (ks.at_ (i + 1))[j]? = some (p, y, kk) → ExprOk t p y kk)
    (h : LK B kb mr At ct t vs s w0) (hs : SeenIn s) (hl : s.slots.length ≤ 1000000) {A : Option Addr} {c : Nat} (hA : IntsAt w0 A (kidsL t i)) (hA2 : ∀ a, A = some a → a.block ≠ kb)
    (hsm : ∀ p (hp : p < t.length), t[p].text.size ≤ 140737488355328) {sg : Sg} {nm : ByteArray} {g f : Nat} (hg : HB w0 g 51 (sg.args.map fun n => .int .i8 n)) :
    Ret Tryz.prog 101 [kp kb, .int .i64 i, .slice A (kidsL t i).length c, .agg #[.string nm, .slice (some ⟨g, 0, none⟩) sg.args.length sg.args.length, .int .i8 sg.tell, .func (.func f) #[] #[]]] w0 [kb]
      fun v w' => ∃ q, v = .int .i64 q ∧ 0 ≤ q ∧ q ≤ t.length - i - 1 ∧
        LK B kb mr At ct t vs (mustL (callL sg x ks.heads (exprs s.slots s.seen ks)).isSome s) w' ∧ (s.bad = false → ∀ q', callL sg x ks.heads (exprs s.slots s.seen ks) = some q' → q' = q) := by
  refine fn_go (cx_ok 121 []) wideOrders Tryz.func101 rfl rfl Tryz.call101 (by simp [cx]) ?_; conv => whnf
  have hF := Fr.refl [] w0
  refine EvNew.blk fun r1 w hr_r1 hz_r1 hFx hB_r1 => ?_; replace hF := (hF).trans hFx; have hlt_r1 := hFx.size; conv => whnf
  refine EvDraw.go (fun w' => Fr [kb] w w' ∧ ∃ b, HB w' kb 81 [.slice At t.length ct, vs, .map (some mr), .bool b]) (some 22) (.take 0 true (.take 1 true (.take 2 true (.take 3 true (.take 4 true (.take 5 true (.take 6 true (.exec 7 (.take 8 true (.take 9 true (.take 10 true (.take 11 true (.take 12 true (.take 13 true (.take 14 true (.take 15 true (.take 16 true (.take 17 true (.take 18 true (.take 19 true (.take 20 true (.take 21 true (.exec 22 (.take 23 false (.take 24 false .done))))))))))))))))))))))))) (by kernel_rfl) ?_ ?_
  · exact ⟨(Fr.drew _).nil, s.bad, (h.blk.fr0 hF).fr0 (Fr.drew _)⟩
  conv => whnf
  have hFd := hF.trans (Fr.drew w)
  have hne1 : r1 ≠ kb := by have := h.blk.lt; omega
  have hlen : (((kidsL t i).length : Int) == (sg.args.length : Int)) = (ks.heads.length == sg.args.length) := by
    rw [kidsL_fo hfo, List.length_map, Fo.pos_length, Fo.heads_length]
    by_cases hh : ks.len = sg.args.length
    · simp [hh]
    · rw [beq_eq_false_iff_ne.2 hh, beq_eq_false_iff_ne.2 (by omega)]
  rw [hlen]
  refine EvCall.ret (must_ok (h.fr0 hFd) _) (by simpa [rsOf] using hne1) fun v w1 hF1 hq => ?_
  obtain ⟨rfl, h1⟩ := hq
  conv => whnf
  refine ⟨⟨((Fr.drew w).nil).trans hF1, _, h1.blk⟩, ?_⟩
  conv => whnf
  have hcl : (callL sg x ks.heads (exprs s.slots s.seen ks)).isSome = (ks.heads.length == sg.args.length && (likeB x sg.tell x.n 0 && (argsL sg.args ks.heads (exprs s.slots s.seen ks) 0 0).isSome)) := by
    unfold callL
    cases ks.heads.length == sg.args.length <;> cases likeB x sg.tell x.n 0 <;> simp
  refine EvSplit.any (fun h2 => ?_) (fun h2 => ?_)
  · conv => whnf
    have hb : (mustL (ks.heads.length == sg.args.length) s).bad = true := by simpa using h2
    rw [mustL_stop hb (likeB x sg.tell x.n 0 && (argsL sg.args ks.heads (exprs s.slots s.seen ks) 0 0).isSome), ← hcl] at h1
    refine ⟨hFd.nil.trans hF1, 0, rfl, by omega, by have := hfo.lt; omega, h1, fun hb' q' hq' => ?_⟩
    rw [mustL_stop hb (likeB x sg.tell x.n 0 && (argsL sg.args ks.heads (exprs s.slots s.seen ks) 0 0).isSome), ← hcl, hq'] at hb
    rw [show (some q').isSome = true from rfl, mustL_true, hb'] at hb; cases hb
  conv => whnf
  refine ⟨_, fun w' hw => hw.1.2.choose_spec.add rfl, ?_⟩
  conv => whnf
  refine EvIdx.nd h.tree hfo.lt rfl fun a ha => ?_
  conv => whnf
  have htr : ∀ w', Fr [kb] w w' → NodesAt w' At t := fun w' hf => Rows.frQ (Rows.frQ h.tree h.low hF (by simp)) h.low hf (fun b hb => by have := h.hk; simp; omega)
  refine ⟨_, fun w' hw => (htr w' hw.1.1).cell ha hfo.lt 2 rfl, ?_⟩
  conv => whnf
  have hm : (mustL (ks.heads.length == sg.args.length) s).bad = false := by simpa using h2
  obtain ⟨hbad, hle⟩ := mustL_ok hm
  rw [hle, mustL_true] at h1
  refine EvCall.ret (like_ok h1 hfo.lt sg.tell (t[i]'hfo.lt).n 0) (by simpa [rsOf] using hne1) fun v w2 hF2 hq => ?_
  rw [hfo.get]
  rw [hfo.get] at hq
  obtain ⟨rfl, h3⟩ := hq
  conv => whnf
  have hF02 : Fr [kb] w0 w2 := (hFd.nil.trans hF1).trans hF2
  refine EvIf.any (fun h4 => ?_) (fun h4 => ?_)
  · conv => whnf
    have hb : (mustL (likeB x sg.tell x.n 0) s).bad = true := by simpa using h4
    rw [mustL_stop hb (argsL sg.args ks.heads (exprs s.slots s.seen ks) 0 0).isSome] at h3
    have e : (callL sg x ks.heads (exprs s.slots s.seen ks)).isSome = (likeB x sg.tell x.n 0 && (argsL sg.args ks.heads (exprs s.slots s.seen ks) 0 0).isSome) := by rw [hcl, hle, Bool.true_and]
    rw [← e] at h3
    refine ⟨hF02, 0, rfl, by omega, by have := hfo.lt; omega, h3, fun hb' q' hq' => ?_⟩
    rw [mustL_stop hb (argsL sg.args ks.heads (exprs s.slots s.seen ks) 0 0).isSome, ← e, hq'] at hb
    rw [show (some q').isSome = true from rfl, mustL_true, hb'] at hb; cases hb
  conv => whnf
  have hm2 : (mustL (likeB x sg.tell x.n 0) s).bad = false := by simpa using h4
  obtain ⟨_, hlk⟩ := mustL_ok hm2
  rw [hlk, mustL_true] at h3
  have hcall : callL sg x ks.heads (exprs s.slots s.seen ks) = argsL sg.args ks.heads (exprs s.slots s.seen ks) 0 0 := by unfold callL; rw [hle, hlk]; rfl
  rw [hcall]
  have hkl : (kidsL t i).length = ks.len := by rw [kidsL_fo hfo, List.length_map, Fo.pos_length]
  have hal : sg.args.length = ks.len := by have := beq_iff_eq.1 hle; rw [Fo.heads_length] at this; exact this.symm
  have hlt0 := hfo.lt
  refine EvLoop.go (Nat × Int × Int) (fun (j, v, h) => ⟨[(0, .v (kp kb)), (7, .bp 0 r1 0), (9, .v (.int .i64 h)), (10, .v (.int .i64 v)), (39, .v (.slice A (kidsL t i).length c)), (40, .v (.int .i64 (kidsL t i).length)), (41, .v (.int .i64 j))],
      [⟨0, r1, 146, [.string nm, .slice (some ⟨g, 0, none⟩) sg.args.length sg.args.length, .int .i8 sg.tell, .func (.func f) #[] #[]]⟩], 1⟩)
    (fun (j, v, h) w' => CInv t B kb mr At ct vs s w0 i ks.len (fun v h j => argsL (sg.args.drop j) (ks.heads.drop j) ((exprs s.slots s.seen ks).drop j) v h) j v h w') (fun x => ks.len - x.1) (0, 0, 0) (by (refine SubS.mk ?_ ?_ <;> (repeat' (first | exact True.intro | refine And.intro ?_ ?_)) <;> (first | rfl | exact svi (by omega) | exact List.mem_cons_self | exact List.mem_cons_of_mem _ List.mem_cons_self | exact List.mem_cons_of_mem _ (List.mem_cons_of_mem _ List.mem_cons_self) | skip)))
    ⟨hF02, by omega, by omega, by omega, by omega, by omega, true, by rw [mustL_true]; exact h3, rfl⟩ ?_
  rintro ⟨j, v, m⟩ w' ⟨hFr, hj, v0, vj, h0, hh, fl, hlk', hfl⟩
  conv => whnf
  refine EvIf.lt (fun hlt => ?_) (fun hge => ?_)
  · have hjl : j < ks.len := by rw [hkl] at hlt; omega
    obtain ⟨p, y, kk, r', q1, q2, q3, q4, q5, q6⟩ := fo_tree s.slots s.seen hfo.2.2.1 hjl
    have hplt := q5.lt
    have hpj : (kidsL t i)[j]? = some (p : Int) := by rw [kidsL_fo hfo, List.getElem?_map, q2]; rfl
    obtain ⟨ar, har⟩ : ∃ ar, sg.args[j]? = some ar := ⟨_, List.getElem?_eq_getElem (by omega)⟩
    have hstep : ∀ v h, argsL (sg.args.drop j) (ks.heads.drop j) ((exprs s.slots s.seen ks).drop j) v h =
        if ar = -1 then (if y.op == 51 && y.kids == 0 && decide (y.n ≥ 0) && decide (y.n ≤ 3) && likeB y 0 y.n 0 then argsL (sg.args.drop (j + 1)) (ks.heads.drop (j + 1)) ((exprs s.slots s.seen ks).drop (j + 1)) v h else none)
        else if ar = -2 then (if y.op == 52 && y.kids == 0 && rightL y.text && likeB y 0 0 0 then argsL (sg.args.drop (j + 1)) (ks.heads.drop (j + 1)) ((exprs s.slots s.seen ks).drop (j + 1)) v h else none)
        else (stepE s.slots s.seen y kk.heads (exprs s.slots s.seen kk)).bind fun q => if q.1 = ar then argsL (sg.args.drop (j + 1)) (ks.heads.drop (j + 1)) ((exprs s.slots s.seen ks).drop (j + 1)) (v + 1) (if v + q.2 > h then v + q.2 else h) else none := by
      intro v h
      rw [drop_get har, drop_get q3, drop_get q4]; rfl
    have hA' : IntsAt w' A (kidsL t i) := Rows.fr hA hFr fun a ha => by simpa using hA2 a ha
    have hgk : g ≠ kb := hg.ne_ty h.blk (by decide)
    have hg' := hg.fr hFr (by simpa using hgk)
    conv => whnf
    refine EvIdx.ints hA' (by omega) (by omega) rfl rfl fun aa haa => ?_
    rw [Int.toNat_natCast]
    conv => whnf
    refine EvLd.ints hA' haa hpj ?_
    conv => whnf
    refine EvLd.blk hlk'.blk rfl ?_
    conv => whnf
    refine EvIdx.nd hlk'.tree hplt rfl fun a2 ha2 => ?_
    conv => whnf
    refine EvLdN.nd hlk'.tree ha2 hplt rfl ?_
    rw [q5.get]
    conv => whnf
    have hG := Fr.refl [] w'
    refine EvNew.blk fun r2 w hr_r2 hz_r2 hFx hB_r2 => ?_; replace hG := (hG).trans hFx; have hlt_r2 := hFx.size; conv => whnf
    intro w hFx hBx; replace hG := (hG).trans' hFx (by simp; omega); conv => whnf
    have hl3 := hlk'.fr0 hG
    have hg3 := hg'.fr0 hG
    have hne2 : r2 ≠ kb := by have := hlk'.blk.lt; omega
    have hFG : Fr [kb] w0 w := hFr.trans hG.nil
    refine EvIdx.one (by omega) (by omega) rfl ?_
    rw [Int.toNat_natCast]
    conv => whnf
    refine EvLd.blk hg3 (by rw [List.getElem?_map, har]; rfl) ?_
    conv => whnf
    refine EvIf.eq (fun a1 => ?_) (fun a1 => ?_)
    · have e0 := hstep v m
      rw [if_pos a1] at e0
      conv => whnf
      refine EvSplit.eq (fun b1 => ?_) (fun b1 => ?_)
      rotate_left
      · conv => whnf
        refine EvCall.ret (must_ok hl3 (false)) (by simpa [rsOf] using ⟨hne2, hne1⟩) fun u w4 hF4 hq => ?_
        obtain ⟨rfl, hl4⟩ := hq
        conv => whnf
        refine EvCall.ret (like_ok hl4 hplt 0 y.n 0) (by simpa [rsOf] using ⟨hne2, hne1⟩) fun u w5 hF5 hq => ?_
        rw [q5.get] at hq
        obtain ⟨rfl, hl5⟩ := hq
        conv => whnf
        refine EvAr.i64 (by omega) ?_; conv => whnf
        have e1 : (y.op == 51 && y.kids == 0 && decide (y.n ≥ 0) && decide (y.n ≤ 3)) = (false) := by simp [b1]
        rw [e1] at e0
        refine ⟨(j + 1, v, m), by (refine SubS.mk ?_ ?_ <;> (repeat' (first | exact True.intro | refine And.intro ?_ ?_)) <;> (first | rfl | exact svi (by omega) | exact List.mem_cons_self | exact List.mem_cons_of_mem _ List.mem_cons_self | exact List.mem_cons_of_mem _ (List.mem_cons_of_mem _ List.mem_cons_self) | skip)), ⟨(hFG.trans hF4).trans hF5, hjl, v0, by omega, h0, hh, fl && ((false) && likeB y 0 y.n 0), ?_, flag_step hfl e0⟩, by dsimp only; omega⟩
        rw [mustL_mustL, mustL_mustL] at hl5; exact hl5
      conv => whnf
      refine EvSplit.eq (fun b2 => ?_) (fun b2 => ?_)
      rotate_left
      · conv => whnf
        refine EvCall.ret (must_ok hl3 (false)) (by simpa [rsOf] using ⟨hne2, hne1⟩) fun u w4 hF4 hq => ?_
        obtain ⟨rfl, hl4⟩ := hq
        conv => whnf
        refine EvCall.ret (like_ok hl4 hplt 0 y.n 0) (by simpa [rsOf] using ⟨hne2, hne1⟩) fun u w5 hF5 hq => ?_
        rw [q5.get] at hq
        obtain ⟨rfl, hl5⟩ := hq
        conv => whnf
        refine EvAr.i64 (by omega) ?_; conv => whnf
        have e1 : (y.op == 51 && y.kids == 0 && decide (y.n ≥ 0) && decide (y.n ≤ 3)) = (false) := by simp [b1, b2]
        rw [e1] at e0
        refine ⟨(j + 1, v, m), by (refine SubS.mk ?_ ?_ <;> (repeat' (first | exact True.intro | refine And.intro ?_ ?_)) <;> (first | rfl | exact svi (by omega) | exact List.mem_cons_self | exact List.mem_cons_of_mem _ List.mem_cons_self | exact List.mem_cons_of_mem _ (List.mem_cons_of_mem _ List.mem_cons_self) | skip)), ⟨(hFG.trans hF4).trans hF5, hjl, v0, by omega, h0, hh, fl && ((false) && likeB y 0 y.n 0), ?_, flag_step hfl e0⟩, by dsimp only; omega⟩
        rw [mustL_mustL, mustL_mustL] at hl5; exact hl5
      conv => whnf
      refine EvSplit.ge (fun b3 => ?_) (fun b3 => ?_)
      rotate_left
      · conv => whnf
        refine EvCall.ret (must_ok hl3 (false)) (by simpa [rsOf] using ⟨hne2, hne1⟩) fun u w4 hF4 hq => ?_
        obtain ⟨rfl, hl4⟩ := hq
        conv => whnf
        refine EvCall.ret (like_ok hl4 hplt 0 y.n 0) (by simpa [rsOf] using ⟨hne2, hne1⟩) fun u w5 hF5 hq => ?_
        rw [q5.get] at hq
        obtain ⟨rfl, hl5⟩ := hq
        conv => whnf
        refine EvAr.i64 (by omega) ?_; conv => whnf
        have e1 : (y.op == 51 && y.kids == 0 && decide (y.n ≥ 0) && decide (y.n ≤ 3)) = (false) := by simp [b1, b2, Int.not_le.2 b3]
        rw [e1] at e0
        refine ⟨(j + 1, v, m), by (refine SubS.mk ?_ ?_ <;> (repeat' (first | exact True.intro | refine And.intro ?_ ?_)) <;> (first | rfl | exact svi (by omega) | exact List.mem_cons_self | exact List.mem_cons_of_mem _ List.mem_cons_self | exact List.mem_cons_of_mem _ (List.mem_cons_of_mem _ List.mem_cons_self) | skip)), ⟨(hFG.trans hF4).trans hF5, hjl, v0, by omega, h0, hh, fl && ((false) && likeB y 0 y.n 0), ?_, flag_step hfl e0⟩, by dsimp only; omega⟩
        rw [mustL_mustL, mustL_mustL] at hl5; exact hl5
      · conv => whnf
        refine EvCall.ret (must_ok hl3 (decide (y.n ≤ 3))) (by simpa [rsOf] using ⟨hne2, hne1⟩) fun u w4 hF4 hq => ?_
        obtain ⟨rfl, hl4⟩ := hq
        conv => whnf
        refine EvCall.ret (like_ok hl4 hplt 0 y.n 0) (by simpa [rsOf] using ⟨hne2, hne1⟩) fun u w5 hF5 hq => ?_
        rw [q5.get] at hq
        obtain ⟨rfl, hl5⟩ := hq
        conv => whnf
        refine EvAr.i64 (by omega) ?_; conv => whnf
        have e1 : (y.op == 51 && y.kids == 0 && decide (y.n ≥ 0) && decide (y.n ≤ 3)) = (decide (y.n ≤ 3)) := by simp [b1, b2, b3]
        rw [e1] at e0
        refine ⟨(j + 1, v, m), by (refine SubS.mk ?_ ?_ <;> (repeat' (first | exact True.intro | refine And.intro ?_ ?_)) <;> (first | rfl | exact svi (by omega) | exact List.mem_cons_self | exact List.mem_cons_of_mem _ List.mem_cons_self | exact List.mem_cons_of_mem _ (List.mem_cons_of_mem _ List.mem_cons_self) | skip)), ⟨(hFG.trans hF4).trans hF5, hjl, v0, by omega, h0, hh, fl && ((decide (y.n ≤ 3)) && likeB y 0 y.n 0), ?_, flag_step hfl e0⟩, by dsimp only; omega⟩
        rw [mustL_mustL, mustL_mustL] at hl5; exact hl5
    · conv => whnf
      refine EvIf.eq (fun a3 => ?_) (fun a3 => ?_)
      · have e0 := hstep v m
        rw [if_neg a1, if_pos a3] at e0
        conv => whnf
        refine EvSplit.eq (fun b1 => ?_) (fun b1 => ?_)
        rotate_left
        · conv => whnf
          refine EvCall.ret (must_ok hl3 (false)) (by simpa [rsOf] using ⟨hne2, hne1⟩) fun u w4 hF4 hq => ?_
          obtain ⟨rfl, hl4⟩ := hq
          conv => whnf
          refine EvCall.ret (like_ok hl4 hplt 0 0 0) (by simpa [rsOf] using ⟨hne2, hne1⟩) fun u w5 hF5 hq => ?_
          rw [q5.get] at hq
          obtain ⟨rfl, hl5⟩ := hq
          conv => whnf
          refine EvAr.i64 (by omega) ?_; conv => whnf
          have e1 : (y.op == 52 && y.kids == 0 && rightL y.text) = (false) := by simp [b1]
          rw [e1] at e0
          refine ⟨(j + 1, v, m), by (refine SubS.mk ?_ ?_ <;> (repeat' (first | exact True.intro | refine And.intro ?_ ?_)) <;> (first | rfl | exact svi (by omega) | exact List.mem_cons_self | exact List.mem_cons_of_mem _ List.mem_cons_self | exact List.mem_cons_of_mem _ (List.mem_cons_of_mem _ List.mem_cons_self) | skip)), ⟨(hFG.trans hF4).trans hF5, hjl, v0, by omega, h0, hh, fl && ((false) && likeB y 0 0 0), ?_, flag_step hfl e0⟩, by dsimp only; omega⟩
          rw [mustL_mustL, mustL_mustL] at hl5; exact hl5
        conv => whnf
        refine EvSplit.eq (fun b2 => ?_) (fun b2 => ?_)
        rotate_left
        · conv => whnf
          refine EvCall.ret (must_ok hl3 (false)) (by simpa [rsOf] using ⟨hne2, hne1⟩) fun u w4 hF4 hq => ?_
          obtain ⟨rfl, hl4⟩ := hq
          conv => whnf
          refine EvCall.ret (like_ok hl4 hplt 0 0 0) (by simpa [rsOf] using ⟨hne2, hne1⟩) fun u w5 hF5 hq => ?_
          rw [q5.get] at hq
          obtain ⟨rfl, hl5⟩ := hq
          conv => whnf
          refine EvAr.i64 (by omega) ?_; conv => whnf
          have e1 : (y.op == 52 && y.kids == 0 && rightL y.text) = (false) := by simp [b1, b2]
          rw [e1] at e0
          refine ⟨(j + 1, v, m), by (refine SubS.mk ?_ ?_ <;> (repeat' (first | exact True.intro | refine And.intro ?_ ?_)) <;> (first | rfl | exact svi (by omega) | exact List.mem_cons_self | exact List.mem_cons_of_mem _ List.mem_cons_self | exact List.mem_cons_of_mem _ (List.mem_cons_of_mem _ List.mem_cons_self) | skip)), ⟨(hFG.trans hF4).trans hF5, hjl, v0, by omega, h0, hh, fl && ((false) && likeB y 0 0 0), ?_, flag_step hfl e0⟩, by dsimp only; omega⟩
          rw [mustL_mustL, mustL_mustL] at hl5; exact hl5
        conv => whnf
        have htx : y.text.size ≤ 140737488355328 := by
          have := hsm p hplt
          rwa [q5.get] at this
        refine EvCall.ret0 (right_ok y.text w htx) fun u w6 hF6 hq => ?_
        obtain ⟨rfl, rfl⟩ := hq
        · conv => whnf
          refine EvCall.ret (must_ok hl3 (rightL y.text)) (by simpa [rsOf] using ⟨hne2, hne1⟩) fun u w4 hF4 hq => ?_
          obtain ⟨rfl, hl4⟩ := hq
          conv => whnf
          refine EvCall.ret (like_ok hl4 hplt 0 0 0) (by simpa [rsOf] using ⟨hne2, hne1⟩) fun u w5 hF5 hq => ?_
          rw [q5.get] at hq
          obtain ⟨rfl, hl5⟩ := hq
          conv => whnf
          refine EvAr.i64 (by omega) ?_; conv => whnf
          have e1 : (y.op == 52 && y.kids == 0 && rightL y.text) = (rightL y.text) := by simp [b1, b2]
          rw [e1] at e0
          refine ⟨(j + 1, v, m), by (refine SubS.mk ?_ ?_ <;> (repeat' (first | exact True.intro | refine And.intro ?_ ?_)) <;> (first | rfl | exact svi (by omega) | exact List.mem_cons_self | exact List.mem_cons_of_mem _ List.mem_cons_self | exact List.mem_cons_of_mem _ (List.mem_cons_of_mem _ List.mem_cons_self) | skip)), ⟨(hFG.trans hF4).trans hF5, hjl, v0, by omega, h0, hh, fl && ((rightL y.text) && likeB y 0 0 0), ?_, flag_step hfl e0⟩, by dsimp only; omega⟩
          rw [mustL_mustL, mustL_mustL] at hl5; exact hl5
      · have e0 := hstep v m
        rw [if_neg a1, if_neg a3] at e0
        conv => whnf
        refine EvIdx.one (by omega) (by omega) rfl ?_
        rw [Int.toNat_natCast]
        conv => whnf
        refine EvLd.blk hg3 (by rw [List.getElem?_map, har]; rfl) ?_
        conv => whnf
        refine EvCall.ret (wanted_ok (ih j p y kk q1) hl3 hs hl ar) (by simpa [rsOf] using ⟨hne2, hne1⟩) fun u w4 hF4 hq => ?_
        obtain ⟨gg, rfl, c1, c2, c3, c4⟩ := hq
        conv => whnf
        refine EvAr.i64 (by omega) ?_; conv => whnf
        refine EvAr.i64 (by omega) ?_; conv => whnf
        refine EvAr.i64 (by omega) ?_; conv => whnf
        rw [mustL_mustL] at c3
        refine ⟨(j + 1, v + 1, if v + gg > m then v + gg else m), by (refine SubS.mk ?_ ?_ <;> (repeat' (first | exact True.intro | refine And.intro ?_ ?_)) <;> (first | rfl | exact svi (by omega) | exact List.mem_cons_self | exact List.mem_cons_of_mem _ List.mem_cons_self | exact List.mem_cons_of_mem _ (List.mem_cons_of_mem _ List.mem_cons_self) | skip)), ⟨hFG.trans hF4, hjl, by omega, by omega, by split <;> omega, by split <;> omega, _, c3, ?_⟩, by dsimp only; omega⟩
        rw [hfl, e0]
        rw [mustL_slots, mustL_seen] at c4 ⊢
        cases fl with
        | false => rfl
        | true =>
          rw [mustL_true] at c4
          cases hr : stepE s.slots s.seen y kk.heads (exprs s.slots s.seen kk) with
          | none => rfl
          | some q =>
            by_cases hq : q.1 = ar
            · have := c4 hbad q.2 (by rw [hr]; simp [wantL, hq])
              simp [wantL, hq, this]
            · simp [wantL, hq]
  · conv => whnf
    obtain rfl : j = ks.len := by omega
    refine ⟨hFr, m, rfl, h0, hh, ?_, ?_⟩
    · have e : (argsL sg.args ks.heads (exprs s.slots s.seen ks) 0 0).isSome = fl := by
        rw [show argsL sg.args ks.heads (exprs s.slots s.seen ks) 0 0 = _ from hfl, List.drop_eq_nil_of_le (by omega)]
        cases fl <;> rfl
      rw [e]; exact hlk'
    · intro hb q' hq'
      rw [show argsL sg.args ks.heads (exprs s.slots s.seen ks) 0 0 = _ from hfl, List.drop_eq_nil_of_le (by omega)] at hq'
      cases fl with
      | false => cases hq'
      | true => simp [argsL] at hq'; exact hq'.symm
end
end Go.Proofs.Tab
