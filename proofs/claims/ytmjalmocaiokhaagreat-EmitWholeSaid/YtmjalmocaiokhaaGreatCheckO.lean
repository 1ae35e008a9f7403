/- Package check: the walk of operator. No condition. -/
import Derived.Test.YtmjalmocaiokhaaGreatCheckC
set_option linter.unusedVariables false
set_option linter.unusedSimpArgs false
set_option maxRecDepth 100000
namespace Go.Proofs.Tab
open Go Go.Fw
section
variable {t : List Nd} {B kb mr : Nat} {At : Option Addr} {ct : Nat} {vs : Value} {s : Lk} {w0 : World}

theorem oper_cond (x : Nd) (hd : List Nd) (ex : List Kh) (c1 c2 : Bool) (h1 : (decide (x.op ≥ 34) && decide (x.op ≤ 48) && hd.length == manyL x.op) = c1) (h2 : likeB x (operTo x.op) 0 0 = c2) (hc : (c1 && c2) = false) : operL x hd ex = none := by
  unfold operL; rw [h1, h2, hc]; rfl

set_option maxHeartbeats 4000000 in
theorem oper_ok {i : Nat} {x : Nd} {ks r : Fo} (hfo : FoAt t i (.cons x ks r)) (ht : t.length ≤ 2000) (ih : ∀ (j p : Nat) y kk, (ks.at_ (i + 1))[j]? = some (p, y, kk) → ExprOk t p y kk)
    (h : LK B kb mr At ct t vs s w0) (hs : SeenIn s) (hl : s.slots.length ≤ 1000000) {A : Option Addr} {c : Nat} (hA : IntsAt w0 A (kidsL t i)) (hA2 : ∀ a, A = some a → a.block ≠ kb) :
    Ret Tryz.prog 122 [kp kb, .int .i64 i, .slice A (kidsL t i).length c] w0 [kb]
      fun v w' => ∃ k q, v = .tuple #[.int .i8 k, .int .i64 q] ∧ 0 ≤ q ∧ q ≤ t.length - i ∧
        LK B kb mr At ct t vs (mustL (operL x ks.heads (exprs s.slots s.seen ks)).isSome s) w' ∧ (s.bad = false → ∀ q', operL x ks.heads (exprs s.slots s.seen ks) = some q' → q' = (k, q)) := by
  have hkl : (kidsL t i).length = ks.len := by rw [kidsL_fo hfo, List.length_map, Fo.pos_length]
  have hlt := hfo.lt
  have hget := hfo.get
  refine fn_go (cx_ok 107 []) wideOrders Tryz.func122 rfl rfl Tryz.call122 (by simp [cx]) ?_; conv => whnf
  refine EvLd.blk h.blk rfl ?_
  conv => whnf
  refine EvIdx.nd h.tree hlt rfl fun a ha => ?_
  conv => whnf
  refine EvLd.node h.tree ha hlt rfl ?_
  rw [hget]
  conv => whnf
  refine EvSplit.eq (fun a1 => ?_) (fun a1 => ?_)
  · have hm : manyL x.op = 1 := if_pos (.inl a1)
    conv => whnf
    refine EvCall.ret0 (operator_ok x.op w0) fun v w1 _ hq => ?_
    obtain ⟨rfl, rfl⟩ := hq
    conv => whnf
    refine EvSplit.ge (fun c1 => ?_) (fun c1 => ?_)
    rotate_left
    · conv => whnf
      refine EvCall.ret (must_ok h (false)) (by simp [rsOf]) fun v w1 hF1 hq => ?_
      obtain ⟨rfl, h1⟩ := hq
      conv => whnf
      have hn : operL x ks.heads (exprs s.slots s.seen ks) = none := oper_cond x _ _ false _ (by simp [Int.not_le.2 c1]) rfl rfl
      rw [hn]
      refine EvSplit.any (fun b9 => ?_) (fun b9 => ?_)
      · conv => whnf
        refine ⟨hF1, 0, 0, rfl, by omega, by omega, h1, fun _ _ hq => by cases hq⟩
      · exact absurd b9 (by simp [mustL])
    conv => whnf
    refine EvSplit.le (fun c2 => ?_) (fun c2 => ?_)
    rotate_left
    · conv => whnf
      refine EvCall.ret (must_ok h (false)) (by simp [rsOf]) fun v w1 hF1 hq => ?_
      obtain ⟨rfl, h1⟩ := hq
      conv => whnf
      have hn : operL x ks.heads (exprs s.slots s.seen ks) = none := oper_cond x _ _ false _ (by simp [Int.not_le.2 c2]) rfl rfl
      rw [hn]
      refine EvSplit.any (fun b9 => ?_) (fun b9 => ?_)
      · conv => whnf
        refine ⟨hF1, 0, 0, rfl, by omega, by omega, h1, fun _ _ hq => by cases hq⟩
      · exact absurd b9 (by simp [mustL])
    conv => whnf
    have hlv : (((kidsL t i).length : Int) == 1) = (ks.heads.length == manyL x.op) := by
      rw [hkl, Fo.heads_length, hm]
      by_cases hh : ks.len = 1
      · rw [hh]; rfl
      · rw [beq_eq_false_iff_ne.2 hh, beq_eq_false_iff_ne.2 (by omega)]
    rw [hlv]
    refine EvCall.ret (must_ok h _) (by simp [rsOf]) fun v w2 hF2 hq => ?_
    obtain ⟨rfl, h2⟩ := hq
    conv => whnf
    refine EvSplit.any (fun b1 => ?_) (fun b1 => ?_)
    · conv => whnf
      have hb : (mustL (ks.heads.length == manyL x.op) s).bad = true := by simpa using b1
      rw [mustL_stop hb (operL x ks.heads (exprs s.slots s.seen ks)).isSome] at h2
      have e : (operL x ks.heads (exprs s.slots s.seen ks)).isSome = (ks.heads.length == manyL x.op && (operL x ks.heads (exprs s.slots s.seen ks)).isSome) := by
        cases hc : ks.heads.length == manyL x.op
        · rw [oper_cond x _ _ false _ (by rw [hc]; simp) rfl rfl]; rfl
        · rfl
      rw [← e] at h2
      refine ⟨hF2, 0, 0, rfl, by omega, by omega, h2, fun hb' q' hq' => ?_⟩
      rw [mustL_stop hb (operL x ks.heads (exprs s.slots s.seen ks)).isSome, ← e, hq', show (some q').isSome = true from rfl, mustL_true, hb'] at hb
      cases hb
    conv => whnf
    obtain ⟨hbad, hlen⟩ := mustL_ok (show (mustL (ks.heads.length == manyL x.op) s).bad = false by simpa using b1)
    rw [hlen, mustL_true] at h2
    refine EvCall.ret (like_ok h2 hlt (operTo x.op) 0 0) (by simp [rsOf]) fun v w3 hF3 hq => ?_
    rw [hget] at hq
    obtain ⟨rfl, h3⟩ := hq
    conv => whnf
    have hF03 := hF2.trans hF3
    refine EvIf.any (fun b2 => ?_) (fun b2 => ?_)
    · conv => whnf
      have hb : likeB x (operTo x.op) 0 0 = false := by
        have : (mustL (likeB x (operTo x.op) 0 0) s).bad = true := by simpa using b2
        cases hc : likeB x (operTo x.op) 0 0
        · rfl
        · rw [hc, mustL_true, hbad] at this; cases this
      rw [oper_cond x _ _ _ false rfl hb (by simp)]
      rw [hb] at h3
      exact ⟨hF03, 0, 0, rfl, by omega, by omega, h3, fun _ _ hq => by cases hq⟩
    conv => whnf
    obtain ⟨_, hlk⟩ := mustL_ok (show (mustL (likeB x (operTo x.op) 0 0) s).bad = false by simpa using b2)
    rw [hlk, mustL_true] at h3
    have hop : operL x ks.heads (exprs s.slots s.seen ks) = (firstL x.op (kh (exprs s.slots s.seen ks) 0)).bind fun q => if manyL x.op = 2 then (wantL (kh (exprs s.slots s.seen ks) 1) q.1).map fun h2 => (operTo x.op, maxL q.2 (upL x.op h2)) else some (operTo x.op, q.2) := by
      unfold operL
      rw [if_pos (by rw [hlen, hlk]; simp [c1, c2])]
    rw [hop]
    have hlen' : ks.len = 1 := by have := beq_iff_eq.1 hlen; rw [Fo.heads_length, hm] at this; exact this
    obtain ⟨p0, y0, kk0, r0', f1, f2, f3, f4, f5, f6⟩ := fo_tree s.slots s.seen (j := 0) hfo.2.2.1 (by omega)
    have hk0 : (kidsL t i)[0]? = some (p0 : Int) := by rw [kidsL_fo hfo, List.getElem?_map, f2]; rfl
    have hx0 : kh (exprs s.slots s.seen ks) 0 = stepE s.slots s.seen y0 kk0.heads (exprs s.slots s.seen kk0) := by unfold kh; rw [f4]; rfl
    have hp0 := f5.lt
    have hA3 : IntsAt w3 A (kidsL t i) := Rows.fr hA hF03 fun a ha => by simpa using hA2 a ha
    have he0 : ExprOk t p0 y0 kk0 := ih 0 p0 y0 kk0 f1
    rw [hx0]
    refine EvSplit.eq (fun d1 => ?_) (fun d1 => ?_)
    · conv => whnf
      have hfi : firstL x.op (stepE s.slots s.seen y0 kk0.heads (exprs s.slots s.seen kk0)) = (stepE s.slots s.seen y0 kk0.heads (exprs s.slots s.seen kk0)).bind fun q => if q.1 ≠ 6 then some q else none := by
        unfold firstL; rw [if_pos (.inl d1)]
      refine EvIdx.ints hA3 (by omega) (by omega) rfl rfl fun aa haa => ?_
      conv => whnf
      refine EvLd.ints hA3 haa hk0 ?_
      conv => whnf
      refine EvCall.ret (he0 h3 hs hl) (by simp [rsOf]) fun v w4 hF4 hq => ?_
      obtain ⟨k0, g0, rfl, g1, g2, h4, g3⟩ := hq
      conv => whnf
      refine EvCall.ret (must_ok h4 (k0 != 6)) (by simp [rsOf]) fun v w5 hF5 hq => ?_
      obtain ⟨rfl, h5⟩ := hq
      conv => whnf
      have hF05 := (hF03.trans hF4).trans hF5
      rw [mustL_mustL] at h5
      generalize hR : stepE s.slots s.seen y0 kk0.heads (exprs s.slots s.seen kk0) = R at hfi h5 g3 ⊢
      generalize hFG : firstL x.op R = FG at hfi ⊢
      have hb0 : (R.isSome && (k0 != 6)) = FG.isSome := by
        rw [hfi]
        cases hR' : R with
        | none => rfl
        | some q =>
          have := g3 hbad q hR'
          subst this
          by_cases hk : k0 = 6 <;> simp [hk]
      rw [hb0] at h5
      have hq0 : ∀ q, FG = some q → q = (k0, g0) := fun q hq => by
        rw [hfi] at hq
        obtain ⟨z, z1, z2⟩ := Option.bind_eq_some_iff.1 hq
        split at z2
        · injection z2 with z2; rw [← z2]; exact g3 hbad z z1
        · cases z2
      refine EvSplit.eq (fun m1 => ?_) (fun m1 => ?_)
      · exact absurd m1 (by decide)
      conv => whnf
      refine ⟨hF05, operTo x.op, g0, rfl, g1, by omega, ?_, ?_⟩
      · cases FG <;> (first | exact h5 | (simp only [Option.bind_some, hm]; exact h5))
      · intro _ q' hq'
        cases hc : FG with
        | none => rw [hc] at hq'; cases hq'
        | some q =>
          rw [hc] at hq'
          rw [hq0 q hc] at hq'
          simp only [Option.bind_some, hm] at hq'
          injection hq' with hq'
          exact hq'.symm
    conv => whnf
    refine EvIf.eq (fun d2 => ?_) (fun d2 => ?_)
    · conv => whnf
      have hfi : firstL x.op (stepE s.slots s.seen y0 kk0.heads (exprs s.slots s.seen kk0)) = (stepE s.slots s.seen y0 kk0.heads (exprs s.slots s.seen kk0)).bind fun q => if q.1 ≠ 6 then some q else none := by
        unfold firstL; rw [if_pos (.inr d2)]
      refine EvIdx.ints hA3 (by omega) (by omega) rfl rfl fun aa haa => ?_
      conv => whnf
      refine EvLd.ints hA3 haa hk0 ?_
      conv => whnf
      refine EvCall.ret (he0 h3 hs hl) (by simp [rsOf]) fun v w4 hF4 hq => ?_
      obtain ⟨k0, g0, rfl, g1, g2, h4, g3⟩ := hq
      conv => whnf
      refine EvCall.ret (must_ok h4 (k0 != 6)) (by simp [rsOf]) fun v w5 hF5 hq => ?_
      obtain ⟨rfl, h5⟩ := hq
      conv => whnf
      have hF05 := (hF03.trans hF4).trans hF5
      rw [mustL_mustL] at h5
      generalize hR : stepE s.slots s.seen y0 kk0.heads (exprs s.slots s.seen kk0) = R at hfi h5 g3 ⊢
      generalize hFG : firstL x.op R = FG at hfi ⊢
      have hb0 : (R.isSome && (k0 != 6)) = FG.isSome := by
        rw [hfi]
        cases hR' : R with
        | none => rfl
        | some q =>
          have := g3 hbad q hR'
          subst this
          by_cases hk : k0 = 6 <;> simp [hk]
      rw [hb0] at h5
      have hq0 : ∀ q, FG = some q → q = (k0, g0) := fun q hq => by
        rw [hfi] at hq
        obtain ⟨z, z1, z2⟩ := Option.bind_eq_some_iff.1 hq
        split at z2
        · injection z2 with z2; rw [← z2]; exact g3 hbad z z1
        · cases z2
      refine EvSplit.eq (fun m1 => ?_) (fun m1 => ?_)
      · exact absurd m1 (by decide)
      conv => whnf
      refine ⟨hF05, operTo x.op, g0, rfl, g1, by omega, ?_, ?_⟩
      · cases FG <;> (first | exact h5 | (simp only [Option.bind_some, hm]; exact h5))
      · intro _ q' hq'
        cases hc : FG with
        | none => rw [hc] at hq'; cases hq'
        | some q =>
          rw [hc] at hq'
          rw [hq0 q hc] at hq'
          simp only [Option.bind_some, hm] at hq'
          injection hq' with hq'
          exact hq'.symm
    conv => whnf
    have hfi : firstL x.op (stepE s.slots s.seen y0 kk0.heads (exprs s.slots s.seen kk0)) = (wantL (stepE s.slots s.seen y0 kk0.heads (exprs s.slots s.seen kk0)) (operOf x.op)).map fun h => (operOf x.op, h) := by
      unfold firstL; rw [if_neg (by omega)]
    refine EvIdx.ints hA3 (by omega) (by omega) rfl rfl fun aa haa => ?_
    conv => whnf
    refine EvLd.ints hA3 haa hk0 ?_
    conv => whnf
    refine EvCall.ret (wanted_ok he0 h3 hs hl _) (by simp [rsOf]) fun v w4 hF4 hq => ?_
    obtain ⟨g0, rfl, g1, g2, h4, g3⟩ := hq
    conv => whnf
    have hF04 := hF03.trans hF4
    generalize hFG : firstL x.op (stepE s.slots s.seen y0 kk0.heads (exprs s.slots s.seen kk0)) = FG at hfi ⊢
    have hb0 : (wantL (stepE s.slots s.seen y0 kk0.heads (exprs s.slots s.seen kk0)) (operOf x.op)).isSome = FG.isSome := by rw [hfi]; simp
    rw [hb0] at h4
    have hq0 : ∀ q, FG = some q → q = (operOf x.op, g0) := fun q hq => by
      rw [hfi] at hq
      obtain ⟨z, z1, z2⟩ := Option.map_eq_some_iff.1 hq
      rw [← z2, g3 hbad z z1]
    refine EvSplit.eq (fun m1 => ?_) (fun m1 => ?_)
    · exact absurd m1 (by decide)
    conv => whnf
    refine ⟨hF04, operTo x.op, g0, rfl, g1, by omega, ?_, ?_⟩
    · cases FG <;> (first | exact h4 | (simp only [Option.bind_some, hm]; exact h4))
    · intro _ q' hq'
      cases hc : FG with
      | none => rw [hc] at hq'; cases hq'
      | some q =>
        rw [hc] at hq'
        rw [hq0 q hc] at hq'
        simp only [Option.bind_some, hm] at hq'
        injection hq' with hq'
        exact hq'.symm
  · conv => whnf
    refine EvIf.eq (fun a2 => ?_) (fun a2 => ?_)
    · have hm : manyL x.op = 1 := if_pos (.inr a2)
      conv => whnf
      refine EvCall.ret0 (operator_ok x.op w0) fun v w1 _ hq => ?_
      obtain ⟨rfl, rfl⟩ := hq
      conv => whnf
      refine EvSplit.ge (fun c1 => ?_) (fun c1 => ?_)
      rotate_left
      · conv => whnf
        refine EvCall.ret (must_ok h (false)) (by simp [rsOf]) fun v w1 hF1 hq => ?_
        obtain ⟨rfl, h1⟩ := hq
        conv => whnf
        have hn : operL x ks.heads (exprs s.slots s.seen ks) = none := oper_cond x _ _ false _ (by simp [Int.not_le.2 c1]) rfl rfl
        rw [hn]
        refine EvSplit.any (fun b9 => ?_) (fun b9 => ?_)
        · conv => whnf
          refine ⟨hF1, 0, 0, rfl, by omega, by omega, h1, fun _ _ hq => by cases hq⟩
        · exact absurd b9 (by simp [mustL])
      conv => whnf
      refine EvSplit.le (fun c2 => ?_) (fun c2 => ?_)
      rotate_left
      · conv => whnf
        refine EvCall.ret (must_ok h (false)) (by simp [rsOf]) fun v w1 hF1 hq => ?_
        obtain ⟨rfl, h1⟩ := hq
        conv => whnf
        have hn : operL x ks.heads (exprs s.slots s.seen ks) = none := oper_cond x _ _ false _ (by simp [Int.not_le.2 c2]) rfl rfl
        rw [hn]
        refine EvSplit.any (fun b9 => ?_) (fun b9 => ?_)
        · conv => whnf
          refine ⟨hF1, 0, 0, rfl, by omega, by omega, h1, fun _ _ hq => by cases hq⟩
        · exact absurd b9 (by simp [mustL])
      conv => whnf
      have hlv : (((kidsL t i).length : Int) == 1) = (ks.heads.length == manyL x.op) := by
        rw [hkl, Fo.heads_length, hm]
        by_cases hh : ks.len = 1
        · rw [hh]; rfl
        · rw [beq_eq_false_iff_ne.2 hh, beq_eq_false_iff_ne.2 (by omega)]
      rw [hlv]
      refine EvCall.ret (must_ok h _) (by simp [rsOf]) fun v w2 hF2 hq => ?_
      obtain ⟨rfl, h2⟩ := hq
      conv => whnf
      refine EvSplit.any (fun b1 => ?_) (fun b1 => ?_)
      · conv => whnf
        have hb : (mustL (ks.heads.length == manyL x.op) s).bad = true := by simpa using b1
        rw [mustL_stop hb (operL x ks.heads (exprs s.slots s.seen ks)).isSome] at h2
        have e : (operL x ks.heads (exprs s.slots s.seen ks)).isSome = (ks.heads.length == manyL x.op && (operL x ks.heads (exprs s.slots s.seen ks)).isSome) := by
          cases hc : ks.heads.length == manyL x.op
          · rw [oper_cond x _ _ false _ (by rw [hc]; simp) rfl rfl]; rfl
          · rfl
        rw [← e] at h2
        refine ⟨hF2, 0, 0, rfl, by omega, by omega, h2, fun hb' q' hq' => ?_⟩
        rw [mustL_stop hb (operL x ks.heads (exprs s.slots s.seen ks)).isSome, ← e, hq', show (some q').isSome = true from rfl, mustL_true, hb'] at hb
        cases hb
      conv => whnf
      obtain ⟨hbad, hlen⟩ := mustL_ok (show (mustL (ks.heads.length == manyL x.op) s).bad = false by simpa using b1)
      rw [hlen, mustL_true] at h2
      refine EvCall.ret (like_ok h2 hlt (operTo x.op) 0 0) (by simp [rsOf]) fun v w3 hF3 hq => ?_
      rw [hget] at hq
      obtain ⟨rfl, h3⟩ := hq
      conv => whnf
      have hF03 := hF2.trans hF3
      refine EvIf.any (fun b2 => ?_) (fun b2 => ?_)
      · conv => whnf
        have hb : likeB x (operTo x.op) 0 0 = false := by
          have : (mustL (likeB x (operTo x.op) 0 0) s).bad = true := by simpa using b2
          cases hc : likeB x (operTo x.op) 0 0
          · rfl
          · rw [hc, mustL_true, hbad] at this; cases this
        rw [oper_cond x _ _ _ false rfl hb (by simp)]
        rw [hb] at h3
        exact ⟨hF03, 0, 0, rfl, by omega, by omega, h3, fun _ _ hq => by cases hq⟩
      conv => whnf
      obtain ⟨_, hlk⟩ := mustL_ok (show (mustL (likeB x (operTo x.op) 0 0) s).bad = false by simpa using b2)
      rw [hlk, mustL_true] at h3
      have hop : operL x ks.heads (exprs s.slots s.seen ks) = (firstL x.op (kh (exprs s.slots s.seen ks) 0)).bind fun q => if manyL x.op = 2 then (wantL (kh (exprs s.slots s.seen ks) 1) q.1).map fun h2 => (operTo x.op, maxL q.2 (upL x.op h2)) else some (operTo x.op, q.2) := by
        unfold operL
        rw [if_pos (by rw [hlen, hlk]; simp [c1, c2])]
      rw [hop]
      have hlen' : ks.len = 1 := by have := beq_iff_eq.1 hlen; rw [Fo.heads_length, hm] at this; exact this
      obtain ⟨p0, y0, kk0, r0', f1, f2, f3, f4, f5, f6⟩ := fo_tree s.slots s.seen (j := 0) hfo.2.2.1 (by omega)
      have hk0 : (kidsL t i)[0]? = some (p0 : Int) := by rw [kidsL_fo hfo, List.getElem?_map, f2]; rfl
      have hx0 : kh (exprs s.slots s.seen ks) 0 = stepE s.slots s.seen y0 kk0.heads (exprs s.slots s.seen kk0) := by unfold kh; rw [f4]; rfl
      have hp0 := f5.lt
      have hA3 : IntsAt w3 A (kidsL t i) := Rows.fr hA hF03 fun a ha => by simpa using hA2 a ha
      have he0 : ExprOk t p0 y0 kk0 := ih 0 p0 y0 kk0 f1
      rw [hx0]
      refine EvSplit.eq (fun d1 => ?_) (fun d1 => ?_)
      · conv => whnf
        have hfi : firstL x.op (stepE s.slots s.seen y0 kk0.heads (exprs s.slots s.seen kk0)) = (stepE s.slots s.seen y0 kk0.heads (exprs s.slots s.seen kk0)).bind fun q => if q.1 ≠ 6 then some q else none := by
          unfold firstL; rw [if_pos (.inl d1)]
        refine EvIdx.ints hA3 (by omega) (by omega) rfl rfl fun aa haa => ?_
        conv => whnf
        refine EvLd.ints hA3 haa hk0 ?_
        conv => whnf
        refine EvCall.ret (he0 h3 hs hl) (by simp [rsOf]) fun v w4 hF4 hq => ?_
        obtain ⟨k0, g0, rfl, g1, g2, h4, g3⟩ := hq
        conv => whnf
        refine EvCall.ret (must_ok h4 (k0 != 6)) (by simp [rsOf]) fun v w5 hF5 hq => ?_
        obtain ⟨rfl, h5⟩ := hq
        conv => whnf
        have hF05 := (hF03.trans hF4).trans hF5
        rw [mustL_mustL] at h5
        generalize hR : stepE s.slots s.seen y0 kk0.heads (exprs s.slots s.seen kk0) = R at hfi h5 g3 ⊢
        generalize hFG : firstL x.op R = FG at hfi ⊢
        have hb0 : (R.isSome && (k0 != 6)) = FG.isSome := by
          rw [hfi]
          cases hR' : R with
          | none => rfl
          | some q =>
            have := g3 hbad q hR'
            subst this
            by_cases hk : k0 = 6 <;> simp [hk]
        rw [hb0] at h5
        have hq0 : ∀ q, FG = some q → q = (k0, g0) := fun q hq => by
          rw [hfi] at hq
          obtain ⟨z, z1, z2⟩ := Option.bind_eq_some_iff.1 hq
          split at z2
          · injection z2 with z2; rw [← z2]; exact g3 hbad z z1
          · cases z2
        refine EvSplit.eq (fun m1 => ?_) (fun m1 => ?_)
        · exact absurd m1 (by decide)
        conv => whnf
        refine ⟨hF05, operTo x.op, g0, rfl, g1, by omega, ?_, ?_⟩
        · cases FG <;> (first | exact h5 | (simp only [Option.bind_some, hm]; exact h5))
        · intro _ q' hq'
          cases hc : FG with
          | none => rw [hc] at hq'; cases hq'
          | some q =>
            rw [hc] at hq'
            rw [hq0 q hc] at hq'
            simp only [Option.bind_some, hm] at hq'
            injection hq' with hq'
            exact hq'.symm
      conv => whnf
      refine EvIf.eq (fun d2 => ?_) (fun d2 => ?_)
      · conv => whnf
        have hfi : firstL x.op (stepE s.slots s.seen y0 kk0.heads (exprs s.slots s.seen kk0)) = (stepE s.slots s.seen y0 kk0.heads (exprs s.slots s.seen kk0)).bind fun q => if q.1 ≠ 6 then some q else none := by
          unfold firstL; rw [if_pos (.inr d2)]
        refine EvIdx.ints hA3 (by omega) (by omega) rfl rfl fun aa haa => ?_
        conv => whnf
        refine EvLd.ints hA3 haa hk0 ?_
        conv => whnf
        refine EvCall.ret (he0 h3 hs hl) (by simp [rsOf]) fun v w4 hF4 hq => ?_
        obtain ⟨k0, g0, rfl, g1, g2, h4, g3⟩ := hq
        conv => whnf
        refine EvCall.ret (must_ok h4 (k0 != 6)) (by simp [rsOf]) fun v w5 hF5 hq => ?_
        obtain ⟨rfl, h5⟩ := hq
        conv => whnf
        have hF05 := (hF03.trans hF4).trans hF5
        rw [mustL_mustL] at h5
        generalize hR : stepE s.slots s.seen y0 kk0.heads (exprs s.slots s.seen kk0) = R at hfi h5 g3 ⊢
        generalize hFG : firstL x.op R = FG at hfi ⊢
        have hb0 : (R.isSome && (k0 != 6)) = FG.isSome := by
          rw [hfi]
          cases hR' : R with
          | none => rfl
          | some q =>
            have := g3 hbad q hR'
            subst this
            by_cases hk : k0 = 6 <;> simp [hk]
        rw [hb0] at h5
        have hq0 : ∀ q, FG = some q → q = (k0, g0) := fun q hq => by
          rw [hfi] at hq
          obtain ⟨z, z1, z2⟩ := Option.bind_eq_some_iff.1 hq
          split at z2
          · injection z2 with z2; rw [← z2]; exact g3 hbad z z1
          · cases z2
        refine EvSplit.eq (fun m1 => ?_) (fun m1 => ?_)
        · exact absurd m1 (by decide)
        conv => whnf
        refine ⟨hF05, operTo x.op, g0, rfl, g1, by omega, ?_, ?_⟩
        · cases FG <;> (first | exact h5 | (simp only [Option.bind_some, hm]; exact h5))
        · intro _ q' hq'
          cases hc : FG with
          | none => rw [hc] at hq'; cases hq'
          | some q =>
            rw [hc] at hq'
            rw [hq0 q hc] at hq'
            simp only [Option.bind_some, hm] at hq'
            injection hq' with hq'
            exact hq'.symm
      conv => whnf
      have hfi : firstL x.op (stepE s.slots s.seen y0 kk0.heads (exprs s.slots s.seen kk0)) = (wantL (stepE s.slots s.seen y0 kk0.heads (exprs s.slots s.seen kk0)) (operOf x.op)).map fun h => (operOf x.op, h) := by
        unfold firstL; rw [if_neg (by omega)]
      refine EvIdx.ints hA3 (by omega) (by omega) rfl rfl fun aa haa => ?_
      conv => whnf
      refine EvLd.ints hA3 haa hk0 ?_
      conv => whnf
      refine EvCall.ret (wanted_ok he0 h3 hs hl _) (by simp [rsOf]) fun v w4 hF4 hq => ?_
      obtain ⟨g0, rfl, g1, g2, h4, g3⟩ := hq
      conv => whnf
      have hF04 := hF03.trans hF4
      generalize hFG : firstL x.op (stepE s.slots s.seen y0 kk0.heads (exprs s.slots s.seen kk0)) = FG at hfi ⊢
      have hb0 : (wantL (stepE s.slots s.seen y0 kk0.heads (exprs s.slots s.seen kk0)) (operOf x.op)).isSome = FG.isSome := by rw [hfi]; simp
      rw [hb0] at h4
      have hq0 : ∀ q, FG = some q → q = (operOf x.op, g0) := fun q hq => by
        rw [hfi] at hq
        obtain ⟨z, z1, z2⟩ := Option.map_eq_some_iff.1 hq
        rw [← z2, g3 hbad z z1]
      refine EvSplit.eq (fun m1 => ?_) (fun m1 => ?_)
      · exact absurd m1 (by decide)
      conv => whnf
      refine ⟨hF04, operTo x.op, g0, rfl, g1, by omega, ?_, ?_⟩
      · cases FG <;> (first | exact h4 | (simp only [Option.bind_some, hm]; exact h4))
      · intro _ q' hq'
        cases hc : FG with
        | none => rw [hc] at hq'; cases hq'
        | some q =>
          rw [hc] at hq'
          rw [hq0 q hc] at hq'
          simp only [Option.bind_some, hm] at hq'
          injection hq' with hq'
          exact hq'.symm
    · have hm : manyL x.op = 2 := if_neg (by omega)
      conv => whnf
      refine EvCall.ret0 (operator_ok x.op w0) fun v w1 _ hq => ?_
      obtain ⟨rfl, rfl⟩ := hq
      conv => whnf
      refine EvSplit.ge (fun c1 => ?_) (fun c1 => ?_)
      rotate_left
      · conv => whnf
        refine EvCall.ret (must_ok h (false)) (by simp [rsOf]) fun v w1 hF1 hq => ?_
        obtain ⟨rfl, h1⟩ := hq
        conv => whnf
        have hn : operL x ks.heads (exprs s.slots s.seen ks) = none := oper_cond x _ _ false _ (by simp [Int.not_le.2 c1]) rfl rfl
        rw [hn]
        refine EvSplit.any (fun b9 => ?_) (fun b9 => ?_)
        · conv => whnf
          refine ⟨hF1, 0, 0, rfl, by omega, by omega, h1, fun _ _ hq => by cases hq⟩
        · exact absurd b9 (by simp [mustL])
      conv => whnf
      refine EvSplit.le (fun c2 => ?_) (fun c2 => ?_)
      rotate_left
      · conv => whnf
        refine EvCall.ret (must_ok h (false)) (by simp [rsOf]) fun v w1 hF1 hq => ?_
        obtain ⟨rfl, h1⟩ := hq
        conv => whnf
        have hn : operL x ks.heads (exprs s.slots s.seen ks) = none := oper_cond x _ _ false _ (by simp [Int.not_le.2 c2]) rfl rfl
        rw [hn]
        refine EvSplit.any (fun b9 => ?_) (fun b9 => ?_)
        · conv => whnf
          refine ⟨hF1, 0, 0, rfl, by omega, by omega, h1, fun _ _ hq => by cases hq⟩
        · exact absurd b9 (by simp [mustL])
      conv => whnf
      have hlv : (((kidsL t i).length : Int) == 2) = (ks.heads.length == manyL x.op) := by
        rw [hkl, Fo.heads_length, hm]
        by_cases hh : ks.len = 2
        · rw [hh]; rfl
        · rw [beq_eq_false_iff_ne.2 hh, beq_eq_false_iff_ne.2 (by omega)]
      rw [hlv]
      refine EvCall.ret (must_ok h _) (by simp [rsOf]) fun v w2 hF2 hq => ?_
      obtain ⟨rfl, h2⟩ := hq
      conv => whnf
      refine EvSplit.any (fun b1 => ?_) (fun b1 => ?_)
      · conv => whnf
        have hb : (mustL (ks.heads.length == manyL x.op) s).bad = true := by simpa using b1
        rw [mustL_stop hb (operL x ks.heads (exprs s.slots s.seen ks)).isSome] at h2
        have e : (operL x ks.heads (exprs s.slots s.seen ks)).isSome = (ks.heads.length == manyL x.op && (operL x ks.heads (exprs s.slots s.seen ks)).isSome) := by
          cases hc : ks.heads.length == manyL x.op
          · rw [oper_cond x _ _ false _ (by rw [hc]; simp) rfl rfl]; rfl
          · rfl
        rw [← e] at h2
        refine ⟨hF2, 0, 0, rfl, by omega, by omega, h2, fun hb' q' hq' => ?_⟩
        rw [mustL_stop hb (operL x ks.heads (exprs s.slots s.seen ks)).isSome, ← e, hq', show (some q').isSome = true from rfl, mustL_true, hb'] at hb
        cases hb
      conv => whnf
      obtain ⟨hbad, hlen⟩ := mustL_ok (show (mustL (ks.heads.length == manyL x.op) s).bad = false by simpa using b1)
      rw [hlen, mustL_true] at h2
      refine EvCall.ret (like_ok h2 hlt (operTo x.op) 0 0) (by simp [rsOf]) fun v w3 hF3 hq => ?_
      rw [hget] at hq
      obtain ⟨rfl, h3⟩ := hq
      conv => whnf
      have hF03 := hF2.trans hF3
      refine EvIf.any (fun b2 => ?_) (fun b2 => ?_)
      · conv => whnf
        have hb : likeB x (operTo x.op) 0 0 = false := by
          have : (mustL (likeB x (operTo x.op) 0 0) s).bad = true := by simpa using b2
          cases hc : likeB x (operTo x.op) 0 0
          · rfl
          · rw [hc, mustL_true, hbad] at this; cases this
        rw [oper_cond x _ _ _ false rfl hb (by simp)]
        rw [hb] at h3
        exact ⟨hF03, 0, 0, rfl, by omega, by omega, h3, fun _ _ hq => by cases hq⟩
      conv => whnf
      obtain ⟨_, hlk⟩ := mustL_ok (show (mustL (likeB x (operTo x.op) 0 0) s).bad = false by simpa using b2)
      rw [hlk, mustL_true] at h3
      have hop : operL x ks.heads (exprs s.slots s.seen ks) = (firstL x.op (kh (exprs s.slots s.seen ks) 0)).bind fun q => if manyL x.op = 2 then (wantL (kh (exprs s.slots s.seen ks) 1) q.1).map fun h2 => (operTo x.op, maxL q.2 (upL x.op h2)) else some (operTo x.op, q.2) := by
        unfold operL
        rw [if_pos (by rw [hlen, hlk]; simp [c1, c2])]
      rw [hop]
      have hlen' : ks.len = 2 := by have := beq_iff_eq.1 hlen; rw [Fo.heads_length, hm] at this; exact this
      obtain ⟨p0, y0, kk0, r0', f1, f2, f3, f4, f5, f6⟩ := fo_tree s.slots s.seen (j := 0) hfo.2.2.1 (by omega)
      have hk0 : (kidsL t i)[0]? = some (p0 : Int) := by rw [kidsL_fo hfo, List.getElem?_map, f2]; rfl
      have hx0 : kh (exprs s.slots s.seen ks) 0 = stepE s.slots s.seen y0 kk0.heads (exprs s.slots s.seen kk0) := by unfold kh; rw [f4]; rfl
      have hp0 := f5.lt
      have hA3 : IntsAt w3 A (kidsL t i) := Rows.fr hA hF03 fun a ha => by simpa using hA2 a ha
      have he0 : ExprOk t p0 y0 kk0 := ih 0 p0 y0 kk0 f1
      rw [hx0]
      refine EvSplit.eq (fun d1 => ?_) (fun d1 => ?_)
      · conv => whnf
        have hfi : firstL x.op (stepE s.slots s.seen y0 kk0.heads (exprs s.slots s.seen kk0)) = (stepE s.slots s.seen y0 kk0.heads (exprs s.slots s.seen kk0)).bind fun q => if q.1 ≠ 6 then some q else none := by
          unfold firstL; rw [if_pos (.inl d1)]
        refine EvIdx.ints hA3 (by omega) (by omega) rfl rfl fun aa haa => ?_
        conv => whnf
        refine EvLd.ints hA3 haa hk0 ?_
        conv => whnf
        refine EvCall.ret (he0 h3 hs hl) (by simp [rsOf]) fun v w4 hF4 hq => ?_
        obtain ⟨k0, g0, rfl, g1, g2, h4, g3⟩ := hq
        conv => whnf
        refine EvCall.ret (must_ok h4 (k0 != 6)) (by simp [rsOf]) fun v w5 hF5 hq => ?_
        obtain ⟨rfl, h5⟩ := hq
        conv => whnf
        have hF05 := (hF03.trans hF4).trans hF5
        rw [mustL_mustL] at h5
        generalize hR : stepE s.slots s.seen y0 kk0.heads (exprs s.slots s.seen kk0) = R at hfi h5 g3 ⊢
        generalize hFG : firstL x.op R = FG at hfi ⊢
        have hb0 : (R.isSome && (k0 != 6)) = FG.isSome := by
          rw [hfi]
          cases hR' : R with
          | none => rfl
          | some q =>
            have := g3 hbad q hR'
            subst this
            by_cases hk : k0 = 6 <;> simp [hk]
        rw [hb0] at h5
        have hq0 : ∀ q, FG = some q → q = (k0, g0) := fun q hq => by
          rw [hfi] at hq
          obtain ⟨z, z1, z2⟩ := Option.bind_eq_some_iff.1 hq
          split at z2
          · injection z2 with z2; rw [← z2]; exact g3 hbad z z1
          · cases z2
        refine EvSplit.eq (fun m1 => ?_) (fun m1 => ?_)
        rotate_left
        · exact absurd rfl m1
        conv => whnf
        refine EvLd.blk h5.blk rfl ?_
        conv => whnf
        refine EvIf.any (fun m2 => ?_) (fun m2 => ?_)
        rotate_left
        · have hFn : FG = none := by
            cases hc : FG with
            | none => rfl
            | some q => rw [hc, show (some q).isSome = true from rfl, mustL_true, hbad] at m2; cases m2
          conv => whnf
          refine ⟨hF05, operTo x.op, g0, rfl, g1, by omega, ?_, ?_⟩
          · rw [hFn] at h5 ⊢; exact h5
          · intro _ q' hq'; rw [hFn] at hq'; cases hq'
        obtain ⟨_, hFs⟩ := mustL_ok (show (mustL FG.isSome s).bad = false by simpa using m2)
        obtain ⟨q0, hq0'⟩ := Option.isSome_iff_exists.1 hFs
        obtain rfl := hq0 _ hq0'
        rw [hFs, mustL_true] at h5
        obtain ⟨p1, y1, kk1, r1', e1, e2, e3, e4, e5, e6⟩ := fo_tree s.slots s.seen (j := 1) hfo.2.2.1 (by omega)
        have hk1 : (kidsL t i)[1]? = some (p1 : Int) := by rw [kidsL_fo hfo, List.getElem?_map, e2]; rfl
        have hx1 : kh (exprs s.slots s.seen ks) 1 = stepE s.slots s.seen y1 kk1.heads (exprs s.slots s.seen kk1) := by unfold kh; rw [e4]; rfl
        have hp1 := e5.lt
        have hA5 : IntsAt _ A (kidsL t i) := Rows.fr hA hF05 fun a ha => by simpa using hA2 a ha
        have he1 : ExprOk t p1 y1 kk1 := ih 1 p1 y1 kk1 e1
        rw [hq0', hx1]
        conv => whnf
        refine EvIdx.ints hA5 (by omega) (by omega) rfl rfl fun ab hab => ?_
        conv => whnf
        refine EvLd.ints hA5 hab hk1 ?_
        conv => whnf
        refine EvCall.ret (wanted_ok he1 h5 hs hl _) (by simp [rsOf]) fun v w6 hF6 hq => ?_
        obtain ⟨g5, rfl, g7, g8, h6, g6⟩ := hq
        conv => whnf
        have hF06 := (hF05).trans hF6
        refine EvSplit.ne (fun n1 => ?_) (fun n1 => ?_)
        · conv => whnf
          refine EvIf.ne (fun n2 => ?_) (fun n2 => ?_)
          · conv => whnf
            refine EvAr.i64 (by omega) ?_; conv => whnf
            refine ⟨hF06, operTo x.op, maxL g0 (g5 + 1), rfl, by unfold maxL; split <;> omega, by unfold maxL; split <;> omega, ?_, ?_⟩
            · simpa only [Option.bind_some, hm, if_true, Option.isSome_map] using h6
            · intro _ q' hq'
              simp only [Option.bind_some, hm, if_true] at hq'
              obtain ⟨z, z1, z2⟩ := Option.map_eq_some_iff.1 hq'
              rw [← z2, g6 hbad z z1]
              unfold upL
              rw [if_pos ⟨n1, n2⟩]
          · conv => whnf
            refine ⟨hF06, operTo x.op, maxL g0 (g5), rfl, by unfold maxL; split <;> omega, by unfold maxL; split <;> omega, ?_, ?_⟩
            · simpa only [Option.bind_some, hm, if_true, Option.isSome_map] using h6
            · intro _ q' hq'
              simp only [Option.bind_some, hm, if_true] at hq'
              obtain ⟨z, z1, z2⟩ := Option.map_eq_some_iff.1 hq'
              rw [← z2, g6 hbad z z1]
              unfold upL
              rw [if_neg (fun h => h.2 n2)]
        · conv => whnf
          refine ⟨hF06, operTo x.op, maxL g0 (g5), rfl, by unfold maxL; split <;> omega, by unfold maxL; split <;> omega, ?_, ?_⟩
          · simpa only [Option.bind_some, hm, if_true, Option.isSome_map] using h6
          · intro _ q' hq'
            simp only [Option.bind_some, hm, if_true] at hq'
            obtain ⟨z, z1, z2⟩ := Option.map_eq_some_iff.1 hq'
            rw [← z2, g6 hbad z z1]
            unfold upL
            rw [if_neg (fun h => h.1 n1)]
      conv => whnf
      refine EvIf.eq (fun d2 => ?_) (fun d2 => ?_)
      · conv => whnf
        have hfi : firstL x.op (stepE s.slots s.seen y0 kk0.heads (exprs s.slots s.seen kk0)) = (stepE s.slots s.seen y0 kk0.heads (exprs s.slots s.seen kk0)).bind fun q => if q.1 ≠ 6 then some q else none := by
          unfold firstL; rw [if_pos (.inr d2)]
        refine EvIdx.ints hA3 (by omega) (by omega) rfl rfl fun aa haa => ?_
        conv => whnf
        refine EvLd.ints hA3 haa hk0 ?_
        conv => whnf
        refine EvCall.ret (he0 h3 hs hl) (by simp [rsOf]) fun v w4 hF4 hq => ?_
        obtain ⟨k0, g0, rfl, g1, g2, h4, g3⟩ := hq
        conv => whnf
        refine EvCall.ret (must_ok h4 (k0 != 6)) (by simp [rsOf]) fun v w5 hF5 hq => ?_
        obtain ⟨rfl, h5⟩ := hq
        conv => whnf
        have hF05 := (hF03.trans hF4).trans hF5
        rw [mustL_mustL] at h5
        generalize hR : stepE s.slots s.seen y0 kk0.heads (exprs s.slots s.seen kk0) = R at hfi h5 g3 ⊢
        generalize hFG : firstL x.op R = FG at hfi ⊢
        have hb0 : (R.isSome && (k0 != 6)) = FG.isSome := by
          rw [hfi]
          cases hR' : R with
          | none => rfl
          | some q =>
            have := g3 hbad q hR'
            subst this
            by_cases hk : k0 = 6 <;> simp [hk]
        rw [hb0] at h5
        have hq0 : ∀ q, FG = some q → q = (k0, g0) := fun q hq => by
          rw [hfi] at hq
          obtain ⟨z, z1, z2⟩ := Option.bind_eq_some_iff.1 hq
          split at z2
          · injection z2 with z2; rw [← z2]; exact g3 hbad z z1
          · cases z2
        refine EvSplit.eq (fun m1 => ?_) (fun m1 => ?_)
        rotate_left
        · exact absurd rfl m1
        conv => whnf
        refine EvLd.blk h5.blk rfl ?_
        conv => whnf
        refine EvIf.any (fun m2 => ?_) (fun m2 => ?_)
        rotate_left
        · have hFn : FG = none := by
            cases hc : FG with
            | none => rfl
            | some q => rw [hc, show (some q).isSome = true from rfl, mustL_true, hbad] at m2; cases m2
          conv => whnf
          refine ⟨hF05, operTo x.op, g0, rfl, g1, by omega, ?_, ?_⟩
          · rw [hFn] at h5 ⊢; exact h5
          · intro _ q' hq'; rw [hFn] at hq'; cases hq'
        obtain ⟨_, hFs⟩ := mustL_ok (show (mustL FG.isSome s).bad = false by simpa using m2)
        obtain ⟨q0, hq0'⟩ := Option.isSome_iff_exists.1 hFs
        obtain rfl := hq0 _ hq0'
        rw [hFs, mustL_true] at h5
        obtain ⟨p1, y1, kk1, r1', e1, e2, e3, e4, e5, e6⟩ := fo_tree s.slots s.seen (j := 1) hfo.2.2.1 (by omega)
        have hk1 : (kidsL t i)[1]? = some (p1 : Int) := by rw [kidsL_fo hfo, List.getElem?_map, e2]; rfl
        have hx1 : kh (exprs s.slots s.seen ks) 1 = stepE s.slots s.seen y1 kk1.heads (exprs s.slots s.seen kk1) := by unfold kh; rw [e4]; rfl
        have hp1 := e5.lt
        have hA5 : IntsAt _ A (kidsL t i) := Rows.fr hA hF05 fun a ha => by simpa using hA2 a ha
        have he1 : ExprOk t p1 y1 kk1 := ih 1 p1 y1 kk1 e1
        rw [hq0', hx1]
        conv => whnf
        refine EvIdx.ints hA5 (by omega) (by omega) rfl rfl fun ab hab => ?_
        conv => whnf
        refine EvLd.ints hA5 hab hk1 ?_
        conv => whnf
        refine EvCall.ret (wanted_ok he1 h5 hs hl _) (by simp [rsOf]) fun v w6 hF6 hq => ?_
        obtain ⟨g5, rfl, g7, g8, h6, g6⟩ := hq
        conv => whnf
        have hF06 := (hF05).trans hF6
        refine EvSplit.ne (fun n1 => ?_) (fun n1 => ?_)
        · conv => whnf
          refine EvIf.ne (fun n2 => ?_) (fun n2 => ?_)
          · conv => whnf
            refine EvAr.i64 (by omega) ?_; conv => whnf
            refine ⟨hF06, operTo x.op, maxL g0 (g5 + 1), rfl, by unfold maxL; split <;> omega, by unfold maxL; split <;> omega, ?_, ?_⟩
            · simpa only [Option.bind_some, hm, if_true, Option.isSome_map] using h6
            · intro _ q' hq'
              simp only [Option.bind_some, hm, if_true] at hq'
              obtain ⟨z, z1, z2⟩ := Option.map_eq_some_iff.1 hq'
              rw [← z2, g6 hbad z z1]
              unfold upL
              rw [if_pos ⟨n1, n2⟩]
          · conv => whnf
            refine ⟨hF06, operTo x.op, maxL g0 (g5), rfl, by unfold maxL; split <;> omega, by unfold maxL; split <;> omega, ?_, ?_⟩
            · simpa only [Option.bind_some, hm, if_true, Option.isSome_map] using h6
            · intro _ q' hq'
              simp only [Option.bind_some, hm, if_true] at hq'
              obtain ⟨z, z1, z2⟩ := Option.map_eq_some_iff.1 hq'
              rw [← z2, g6 hbad z z1]
              unfold upL
              rw [if_neg (fun h => h.2 n2)]
        · conv => whnf
          refine ⟨hF06, operTo x.op, maxL g0 (g5), rfl, by unfold maxL; split <;> omega, by unfold maxL; split <;> omega, ?_, ?_⟩
          · simpa only [Option.bind_some, hm, if_true, Option.isSome_map] using h6
          · intro _ q' hq'
            simp only [Option.bind_some, hm, if_true] at hq'
            obtain ⟨z, z1, z2⟩ := Option.map_eq_some_iff.1 hq'
            rw [← z2, g6 hbad z z1]
            unfold upL
            rw [if_neg (fun h => h.1 n1)]
      conv => whnf
      have hfi : firstL x.op (stepE s.slots s.seen y0 kk0.heads (exprs s.slots s.seen kk0)) = (wantL (stepE s.slots s.seen y0 kk0.heads (exprs s.slots s.seen kk0)) (operOf x.op)).map fun h => (operOf x.op, h) := by
        unfold firstL; rw [if_neg (by omega)]
      refine EvIdx.ints hA3 (by omega) (by omega) rfl rfl fun aa haa => ?_
      conv => whnf
      refine EvLd.ints hA3 haa hk0 ?_
      conv => whnf
      refine EvCall.ret (wanted_ok he0 h3 hs hl _) (by simp [rsOf]) fun v w4 hF4 hq => ?_
      obtain ⟨g0, rfl, g1, g2, h4, g3⟩ := hq
      conv => whnf
      have hF04 := hF03.trans hF4
      generalize hFG : firstL x.op (stepE s.slots s.seen y0 kk0.heads (exprs s.slots s.seen kk0)) = FG at hfi ⊢
      have hb0 : (wantL (stepE s.slots s.seen y0 kk0.heads (exprs s.slots s.seen kk0)) (operOf x.op)).isSome = FG.isSome := by rw [hfi]; simp
      rw [hb0] at h4
      have hq0 : ∀ q, FG = some q → q = (operOf x.op, g0) := fun q hq => by
        rw [hfi] at hq
        obtain ⟨z, z1, z2⟩ := Option.map_eq_some_iff.1 hq
        rw [← z2, g3 hbad z z1]
      refine EvSplit.eq (fun m1 => ?_) (fun m1 => ?_)
      rotate_left
      · exact absurd rfl m1
      conv => whnf
      refine EvLd.blk h4.blk rfl ?_
      conv => whnf
      refine EvIf.any (fun m2 => ?_) (fun m2 => ?_)
      rotate_left
      · have hFn : FG = none := by
          cases hc : FG with
          | none => rfl
          | some q => rw [hc, show (some q).isSome = true from rfl, mustL_true, hbad] at m2; cases m2
        conv => whnf
        refine ⟨hF04, operTo x.op, g0, rfl, g1, by omega, ?_, ?_⟩
        · rw [hFn] at h4 ⊢; exact h4
        · intro _ q' hq'; rw [hFn] at hq'; cases hq'
      obtain ⟨_, hFs⟩ := mustL_ok (show (mustL FG.isSome s).bad = false by simpa using m2)
      obtain ⟨q0, hq0'⟩ := Option.isSome_iff_exists.1 hFs
      obtain rfl := hq0 _ hq0'
      rw [hFs, mustL_true] at h4
      obtain ⟨p1, y1, kk1, r1', e1, e2, e3, e4, e5, e6⟩ := fo_tree s.slots s.seen (j := 1) hfo.2.2.1 (by omega)
      have hk1 : (kidsL t i)[1]? = some (p1 : Int) := by rw [kidsL_fo hfo, List.getElem?_map, e2]; rfl
      have hx1 : kh (exprs s.slots s.seen ks) 1 = stepE s.slots s.seen y1 kk1.heads (exprs s.slots s.seen kk1) := by unfold kh; rw [e4]; rfl
      have hp1 := e5.lt
      have hA5 : IntsAt _ A (kidsL t i) := Rows.fr hA hF04 fun a ha => by simpa using hA2 a ha
      have he1 : ExprOk t p1 y1 kk1 := ih 1 p1 y1 kk1 e1
      rw [hq0', hx1]
      conv => whnf
      refine EvIdx.ints hA5 (by omega) (by omega) rfl rfl fun ab hab => ?_
      conv => whnf
      refine EvLd.ints hA5 hab hk1 ?_
      conv => whnf
      refine EvCall.ret (wanted_ok he1 h4 hs hl _) (by simp [rsOf]) fun v w6 hF6 hq => ?_
      obtain ⟨g5, rfl, g7, g8, h6, g6⟩ := hq
      conv => whnf
      have hF06 := (hF04).trans hF6
      refine EvSplit.ne (fun n1 => ?_) (fun n1 => ?_)
      · conv => whnf
        refine EvIf.ne (fun n2 => ?_) (fun n2 => ?_)
        · conv => whnf
          refine EvAr.i64 (by omega) ?_; conv => whnf
          refine ⟨hF06, operTo x.op, maxL g0 (g5 + 1), rfl, by unfold maxL; split <;> omega, by unfold maxL; split <;> omega, ?_, ?_⟩
          · simpa only [Option.bind_some, hm, if_true, Option.isSome_map] using h6
          · intro _ q' hq'
            simp only [Option.bind_some, hm, if_true] at hq'
            obtain ⟨z, z1, z2⟩ := Option.map_eq_some_iff.1 hq'
            rw [← z2, g6 hbad z z1]
            unfold upL
            rw [if_pos ⟨n1, n2⟩]
        · conv => whnf
          refine ⟨hF06, operTo x.op, maxL g0 (g5), rfl, by unfold maxL; split <;> omega, by unfold maxL; split <;> omega, ?_, ?_⟩
          · simpa only [Option.bind_some, hm, if_true, Option.isSome_map] using h6
          · intro _ q' hq'
            simp only [Option.bind_some, hm, if_true] at hq'
            obtain ⟨z, z1, z2⟩ := Option.map_eq_some_iff.1 hq'
            rw [← z2, g6 hbad z z1]
            unfold upL
            rw [if_neg (fun h => h.2 n2)]
      · conv => whnf
        refine ⟨hF06, operTo x.op, maxL g0 (g5), rfl, by unfold maxL; split <;> omega, by unfold maxL; split <;> omega, ?_, ?_⟩
        · simpa only [Option.bind_some, hm, if_true, Option.isSome_map] using h6
        · intro _ q' hq'
          simp only [Option.bind_some, hm, if_true] at hq'
          obtain ⟨z, z1, z2⟩ := Option.map_eq_some_iff.1 hq'
          rw [← z2, g6 hbad z z1]
          unfold upL
          rw [if_neg (fun h => h.1 n1)]
end
end Go.Proofs.Tab
