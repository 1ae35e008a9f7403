/- Package check: the walk of expr. No condition. -/
import Derived.Test.YtmjalmocaiokhaaGreatCheckO
set_option linter.unusedVariables false
set_option linter.unusedSimpArgs false
set_option maxRecDepth 100000
namespace Go.Proofs.Tab
open Go Go.Fw
theorem signL_args {n : Int} {sg : Sg} (h : signL fieldsL n = some sg) : sg.args ≠ [] := by
  have : ∀ s ∈ fieldsL, s.args ≠ [] := by decide
  unfold signL at h
  split at h
  · cases h
  · exact this sg (List.mem_of_getElem? h)
section
variable {t : List Nd}

set_option maxHeartbeats 8000000 in
theorem expr_step {i : Nat} {x : Nd} {ks r : Fo} (hfo : FoAt t i (.cons x ks r)) (ht : t.length ≤ 2000) (ih : ∀ (j p : Nat) y kk, (ks.at_ (i + 1))[j]? = some (p, y, kk) → ExprOk t p y kk)
    (hsm : ∀ p (hp : p < t.length), t[p].text.size ≤ 140737488355328) : ExprOk t i x ks := by
  intro B kb mr At ct vs s w0 h hs hl
  generalize hR : stepE s.slots s.seen x ks.heads (exprs s.slots s.seen ks) = R
  have hkl : (kidsL t i).length = ks.len := by rw [kidsL_fo hfo, List.length_map, Fo.pos_length]
  have hlt := hfo.lt
  have hget := hfo.get
  refine fn_go (cx_ok 174 []) wideOrders Tryz.func93 rfl rfl Tryz.call93 (by simp [cx]) ?_; conv => whnf
  refine EvLd.blk h.blk rfl ?_
  conv => whnf
  refine EvIf.any (fun b1 => ?_) (fun b1 => ?_)
  · conv => whnf
    refine ⟨Fr.refl _ _, 0, 0, rfl, by omega, by omega, by rw [mustL_bad b1]; exact h, fun hb => by rw [hb] at b1; cases b1⟩
  conv => whnf
  refine EvLd.blk h.blk rfl ?_
  conv => whnf
  refine EvIdx.nd h.tree hlt rfl fun a ha => ?_
  conv => whnf
  refine EvLdN.nd h.tree ha hlt rfl ?_
  rw [hget]
  conv => whnf
  have hF := Fr.refl [] w0
  refine EvNew.blk fun r1 w hr_r1 hz_r1 hFx hB_r1 => ?_; replace hF := (hF).trans hFx; have hlt_r1 := hFx.size; conv => whnf
  intro w hFx hBx; replace hF := (hF).trans' hFx (by simp; omega); conv => whnf
  have h1 := h.fr0 hF
  have hne1 : r1 ≠ kb := by have := h.blk.lt; omega
  refine EvLd.blk h1.blk rfl ?_
  conv => whnf
  refine EvCall.ret0 (kids_ok At ct t i w h1.tree (by omega) (by omega) (by omega)) fun v w2 hF2 hq => ?_
  obtain ⟨A, c, rfl, hA, hA2⟩ := hq
  have hA3 : ∀ a, A = some a → a.block ≠ kb := fun a ha => by have := hA2 a ha; have := h1.blk.lt; omega
  have h2 := h1.fr0 hF2
  have hr1 : r1 < w2.heap.size := by have := hF2.size; have := hFx.size; omega
  have hG := hF.trans hF2
  conv => whnf
  have hlen0 : (((kidsL t i).length : Int) == 0) = (ks.heads.length == 0) := by
    rw [hkl, Fo.heads_length]
    by_cases hh : ks.len = 0
    · rw [hh]; rfl
    · rw [beq_eq_false_iff_ne.2 hh, beq_eq_false_iff_ne.2 (by omega)]
  refine EvIf.eq (fun o1 => ?_) (fun o1 => ?_)
  · have hR' : R = if decide (x.n ≥ 0) && ks.heads.length == 0 && likeB x 1 x.n 0 then some (1, 1) else none := by rw [← hR]; unfold stepE; rw [if_pos o1]
    conv => whnf
    refine EvSplit.ge (fun c1 => ?_) (fun c1 => ?_)
    · conv => whnf
      rw [hlen0]
      conv => whnf
      refine EvCall.ret (must_ok h2 (ks.heads.length == 0)) (by simpa [rsOf] using hne1) fun v w3 hF3 hq => ?_
      obtain ⟨rfl, h3⟩ := hq
      conv => whnf
      refine EvCall.ret (like_ok h3 hlt 1 x.n 0) (by simpa [rsOf] using hne1) fun v w4 hF4 hq => ?_
      rw [hget] at hq
      obtain ⟨rfl, h4⟩ := hq
      conv => whnf
      rw [mustL_mustL] at h4
      have e1 : R.isSome = ((ks.heads.length == 0) && likeB x 1 x.n 0) := by
        rw [hR']
        try simp only [c1, decide_true, Bool.true_and]
        cases hcc : ((ks.heads.length == 0) && likeB x 1 x.n 0) <;> simp [hcc]
      refine ⟨(hG.nil.trans hF3).trans hF4, 1, 1, rfl, by omega, by omega, by rw [e1]; exact h4, fun _ q hq => ?_⟩
      rw [hR'] at hq
      split at hq
      · injection hq with hq; exact hq.symm
      · cases hq
    · conv => whnf
      refine EvCall.ret (must_ok h2 (false)) (by simpa [rsOf] using hne1) fun v w3 hF3 hq => ?_
      obtain ⟨rfl, h3⟩ := hq
      conv => whnf
      refine EvCall.ret (like_ok h3 hlt 1 x.n 0) (by simpa [rsOf] using hne1) fun v w4 hF4 hq => ?_
      rw [hget] at hq
      obtain ⟨rfl, h4⟩ := hq
      conv => whnf
      rw [mustL_mustL] at h4
      have e1 : R.isSome = ((false) && likeB x 1 x.n 0) := by
        rw [hR']
        try simp only [Int.not_le.2 c1, decide_false, Bool.false_and]
        cases hcc : ((false) && likeB x 1 x.n 0) <;> simp [hcc]
      refine ⟨(hG.nil.trans hF3).trans hF4, 1, 1, rfl, by omega, by omega, by rw [e1]; exact h4, fun _ q hq => ?_⟩
      rw [hR'] at hq
      split at hq
      · injection hq with hq; exact hq.symm
      · cases hq
  conv => whnf
  have tf : ∀ o2 : (x.op = 31 ∨ x.op = 32), R = if ks.heads.length == 0 && likeB x 2 0 0 then some (2, 1) else none := fun o2 => by rw [← hR]; unfold stepE; rw [if_neg o1, if_pos o2]
  refine EvIf.eq (fun o2 => ?_) (fun o2 => ?_)
  · have hR' := tf (.inl o2)
    conv => whnf
    refine EvIf.eq (fun _ => ?_) (fun n => absurd o2 n)
    conv => whnf
    rw [hlen0]
    conv => whnf
    refine EvCall.ret (must_ok h2 (ks.heads.length == 0)) (by simpa [rsOf] using hne1) fun v w3 hF3 hq => ?_
    obtain ⟨rfl, h3⟩ := hq
    conv => whnf
    refine EvCall.ret (like_ok h3 hlt 2 0 0) (by simpa [rsOf] using hne1) fun v w4 hF4 hq => ?_
    rw [hget] at hq
    obtain ⟨rfl, h4⟩ := hq
    conv => whnf
    rw [mustL_mustL] at h4
    have e1 : R.isSome = ((ks.heads.length == 0) && likeB x 2 0 0) := by
      rw [hR']
      try simp only [Bool.true_and]
      cases hcc : ((ks.heads.length == 0) && likeB x 2 0 0) <;> simp [hcc]
    refine ⟨(hG.nil.trans hF3).trans hF4, 2, 1, rfl, by omega, by omega, by rw [e1]; exact h4, fun _ q hq => ?_⟩
    rw [hR'] at hq
    split at hq
    · injection hq with hq; exact hq.symm
    · cases hq
  conv => whnf
  refine EvIf.eq (fun o3 => ?_) (fun o3 => ?_)
  · have hR' := tf (.inr o3)
    conv => whnf
    rw [hlen0]
    conv => whnf
    refine EvCall.ret (must_ok h2 (ks.heads.length == 0)) (by simpa [rsOf] using hne1) fun v w3 hF3 hq => ?_
    obtain ⟨rfl, h3⟩ := hq
    conv => whnf
    refine EvCall.ret (like_ok h3 hlt 2 0 0) (by simpa [rsOf] using hne1) fun v w4 hF4 hq => ?_
    rw [hget] at hq
    obtain ⟨rfl, h4⟩ := hq
    conv => whnf
    rw [mustL_mustL] at h4
    have e1 : R.isSome = ((ks.heads.length == 0) && likeB x 2 0 0) := by
      rw [hR']
      try simp only [Bool.true_and]
      cases hcc : ((ks.heads.length == 0) && likeB x 2 0 0) <;> simp [hcc]
    refine ⟨(hG.nil.trans hF3).trans hF4, 2, 1, rfl, by omega, by omega, by rw [e1]; exact h4, fun _ q hq => ?_⟩
    rw [hR'] at hq
    split at hq
    · injection hq with hq; exact hq.symm
    · cases hq
  conv => whnf
  refine EvIf.eq (fun o4 => ?_) (fun o4 => ?_)
  · conv => whnf
    refine EvDraw.go (fun w' => LK B kb mr At ct t vs s w') none (.take 0 true (.take 1 true (.take 2 true (.take 3 true (.take 4 true (.take 5 true (.take 6 true (.take 7 true (.take 8 true (.take 9 true (.take 10 true (.take 11 true .done)))))))))))) (by kernel_rfl) ?_ ?_
    · exact h2.fr0 (Fr.drew _)
    conv => whnf
    refine ⟨_, fun w' hw => hw.1.blk.add rfl, ?_⟩
    conv => whnf
    have hR' : R = if (s.seen x.n).isSome && decide (x.n ≥ 0) && decide (x.n < 1048576) && ks.heads.length == 0 && likeB x (s.slots.getD x.n.toNat 0) x.n 0 then some (s.slots.getD x.n.toNat 0, 1) else none := by
      rw [← hR]; unfold stepE; rw [if_neg o1, if_neg (by omega), if_pos o4]
    cases hsn : s.seen x.n with
    | none =>
      refine EvTRd.look_none (cx_ok 0 []) rfl (KeyCls.int rfl) rfl (Ky.int .i64) (fun w' hw => hw.1.map) x.n hsn fun z _ => ?_
      have hn : R = none := by rw [hR', hsn]; simp
      conv => whnf
      refine EvSplit.ff ?_
      conv => whnf
      refine EvCall.ret (must_ok (h2.fr0 (Fr.drew w2)) false) (by simpa [rsOf] using hne1) fun v w3 hF3 hq => ?_
      obtain ⟨rfl, h3⟩ := hq
      conv => whnf
      refine EvIf.any (fun b3 => ?_) (fun b3 => ?_)
      · conv => whnf
        rw [hn]
        exact ⟨(hG.trans (Fr.drew w2)).nil.trans hF3, 0, 0, rfl, by omega, by omega, h3, fun _ _ hq => by cases hq⟩
      · exact absurd b3 (by simp [mustL])
    | some sb =>
      refine EvTRd.of (v := .tuple #[.bool sb, .bool true]) (fun w' hw => EvRd.look_ok (cx_ok 0 []) rfl (KeyCls.int rfl) rfl (Ky.int .i64) hw.1.map x.n (fun b v e hv => by rw [hsn] at e; injection e with e; subst e; rw [show v = .bool _ from hv]) fun z e _ => by rw [hsn] at e; cases e) ?_
      have hsin := hs x.n sb hsn
      conv => whnf
      refine EvSplit.tt ?_
      conv => whnf
      refine EvSplit.ge (fun c1 => ?_) (fun c1 => ?_)
      rotate_left
      · have hn : R = none := by omega
        conv => whnf
        refine EvCall.ret (must_ok (h2.fr0 (Fr.drew w2)) false) (by simpa [rsOf] using hne1) fun v w3 hF3 hq => ?_
        obtain ⟨rfl, h3⟩ := hq
        conv => whnf
        refine EvIf.any (fun b3 => ?_) (fun b3 => ?_)
        · conv => whnf
          rw [hn]
          exact ⟨(hG.trans (Fr.drew w2)).nil.trans hF3, 0, 0, rfl, by omega, by omega, h3, fun _ _ hq => by cases hq⟩
        · exact absurd b3 (by simp [mustL])
      conv => whnf
      refine EvSplit.lt (fun c2 => ?_) (fun c2 => ?_)
      rotate_left
      · have hn : R = none := by rw [hR', hsn]; simp [Int.not_lt.2 c2]
        conv => whnf
        refine EvCall.ret (must_ok (h2.fr0 (Fr.drew w2)) false) (by simpa [rsOf] using hne1) fun v w3 hF3 hq => ?_
        obtain ⟨rfl, h3⟩ := hq
        conv => whnf
        refine EvIf.any (fun b3 => ?_) (fun b3 => ?_)
        · conv => whnf
          rw [hn]
          exact ⟨(hG.trans (Fr.drew w2)).nil.trans hF3, 0, 0, rfl, by omega, by omega, h3, fun _ _ hq => by cases hq⟩
        · exact absurd b3 (by simp [mustL])
      conv => whnf
      rw [hlen0]
      refine EvCall.ret (must_ok (h2.fr0 (Fr.drew w2)) _) (by simpa [rsOf] using hne1) fun v w3 hF3 hq => ?_
      obtain ⟨rfl, h3⟩ := hq
      have hG3 := (hG.trans (Fr.drew w2)).nil.trans hF3
      conv => whnf
      refine EvIf.any (fun b3 => ?_) (fun b3 => ?_)
      · have hl0 : (ks.heads.length == 0) = false := by
          have : (mustL (ks.heads.length == 0) s).bad = true := by simpa using b3
          cases hc : ks.heads.length == 0
          · rfl
          · rw [hc, mustL_true, b1] at this; cases this
        have hn : R = none := by rw [hR', hl0]; simp
        conv => whnf
        rw [hl0] at h3
        rw [hn]
        exact ⟨hG3, 0, 0, rfl, by omega, by omega, h3, fun _ _ hq => by cases hq⟩
      obtain ⟨_, hl0⟩ := mustL_ok (show (mustL (ks.heads.length == 0) s).bad = false by simpa using b3)
      rw [hl0, mustL_true] at h3
      obtain ⟨Av, cv, rfl, _, hAv, _⟩ := h3.own.form
      obtain ⟨ga, rfl⟩ := hAv (by omega)
      obtain ⟨sl, hsl⟩ : ∃ sl, s.slots[x.n.toNat]? = some sl := ⟨_, List.getElem?_eq_getElem (by omega)⟩
      have hgd : s.slots.getD x.n.toNat 0 = sl := by rw [List.getD_eq_getElem?_getD, hsl]; rfl
      rw [hgd] at hR'
      have hR2 : R = if likeB x sl x.n 0 then some (sl, 1) else none := by rw [hR', hsn, hl0]; simp [c1, c2]
      conv => whnf
      refine EvDraw.go (fun w' => LK B kb mr At ct t (.slice (some ⟨ga, 0, none⟩) s.slots.length cv) s w') none (.take 0 true (.take 1 true (.take 2 true (.take 3 true (.take 4 true (.take 5 true (.take 6 true (.take 7 true (.take 8 true .done))))))))) (by kernel_rfl) ?_ ?_
      · exact h3.fr0 (Fr.drew _)
      conv => whnf
      refine ⟨_, fun w' hw => hw.1.blk.add rfl, ?_⟩
      conv => whnf
      refine EvIdx.one c1 (by omega) rfl ?_
      conv => whnf
      refine ⟨_, fun w' hw => hw.1.own.cell (map_get hsl), ?_⟩
      conv => whnf
      refine EvCall.ret (like_ok (h3.fr0 (Fr.drew w3)) hlt sl x.n 0) (by simpa [rsOf] using hne1) fun v w4 hF4 hq => ?_
      rw [hget] at hq
      obtain ⟨rfl, h4⟩ := hq
      conv => whnf
      refine ⟨(hG3.trans (Fr.drew w3).nil).trans hF4, sl, 1, rfl, by omega, by omega, ?_, fun _ q hq => ?_⟩
      · rw [hR2]
        cases hc : likeB x sl x.n 0 <;> rw [hc] at h4 <;> exact h4
      · rw [hR2] at hq
        split at hq
        · injection hq with hq; exact hq.symm
        · cases hq
  conv => whnf
  refine EvIf.eq (fun o5 => ?_) (fun o5 => ?_)
  · conv => whnf
    refine EvDraw.meet (Nat × SgV) (fun (rb, z) => ⟨[(0, .v (kp kb)), (1, .v (.int .i64 i)), (6, .bp 0 r1 0), (7, .v (.slice A (kidsL t i).length c)), (11, .v (.pointer (some ⟨rb, 0, none⟩))), (12, .v (.bool z.ok))], [⟨0, r1, 53, x.cells⟩], 1⟩) (fun (rb, z) w' => Fr [] w2 w' ∧ HB w' rb 146 z.cells ∧ w2.heap.size ≤ rb ∧ SgR w2.heap.size fieldsL x.n w' z) (fun w' => Fr [] w2 w') none (.take 1 true (.take 2 true (.two 0 (.two 3 (.take 4 true (.take 5 true (.take 6 true (.exec 7 (.exec 8 (.take 9 true .done)))))) 7 (.exec 3 (.take 4 true (.take 5 true (.take 6 true (.exec 8 (.take 9 true .done))))))) 7 (.exec 0 (.exec 3 (.take 4 true (.take 5 true (.take 6 true (.exec 8 (.take 9 true .done)))))))))) (by kernel_rfl) ?_ ?_ ?_
    · exact Fr.drew _
    · have hD := Fr.drew w2
      conv => whnf
      refine ⟨?_, ?_⟩
      · conv => whnf
        have hs0 := hD.size
        refine EvCall.ret0 (fields_ok _) fun v wF hFf hq => ?_
        obtain ⟨gf, rfl, hrw, hgf⟩ := hq
        conv => whnf
        refine ⟨hD.trans hFf, ?_⟩
        replace hD := hD.trans hFf
        have hs1 := hFf.size
        conv => whnf
        refine ⟨?_, ?_⟩
        · conv => whnf
          refine EvCall.ret0 (sign_ok hrw (by omega) x.n) fun v wS hFs hq => ?_
          obtain ⟨z, rfl, hz0, hz⟩ := signV_R hq
          replace hz := hz.weak hs0
          conv => whnf
          refine ⟨hD.trans hFs, ?_⟩
          replace hD := hD.trans hFs
          have hs2 := hFs.size
          conv => whnf
          conv => whnf
          have hs3 := hD.size
          refine EvNew.blk fun rb wA hrb hzA hFa hB => ?_
          conv => whnf
          refine ⟨hD.trans hFa, ?_⟩
          replace hD := hD.trans hFa
          conv => whnf
          replace hz := hz.fr (S := []) hFa (by simp)
          refine EvDo.storeBlk (vs := z.cells) (cx_ok 0 []) rfl hB rfl rfl (SgV.one hz0) (by simp [rsOf]; omega) fun w' hFw hB' => ?_
          have hD' := hD.trans' hFw (by simp; omega)
          conv => whnf
          refine ⟨hD', ?_⟩
          conv => whnf
          exact ⟨(rb, z), by (refine SubS.mk ?_ ?_ <;> (repeat' (first | exact True.intro | refine And.intro ?_ ?_)) <;> (first | rfl | exact svi (by omega) | exact List.mem_cons_self | exact List.mem_cons_of_mem _ List.mem_cons_self | exact List.mem_cons_of_mem _ (List.mem_cons_of_mem _ List.mem_cons_self) | skip)), hD', hB', by omega, hz.frT hFw hB (by decide)⟩
        · conv => whnf
          have hs3 := hD.size
          refine EvNew.blk fun rb wA hrb hzA hFa hB => ?_
          conv => whnf
          refine ⟨hD.trans hFa, ?_⟩
          replace hD := hD.trans hFa
          conv => whnf
          have hrw' := hrw
          replace hrw := RowsOf.frQ (S := []) (Q := fun _ => True) (fun _ _ h => h.fr hFa (by simp)) hrw (fun _ _ => trivial) hFa (by simp)
          conv => whnf
          refine EvCall.ret0 (sign_ok hrw (by omega) x.n) fun v wS hFs hq => ?_
          obtain ⟨z, rfl, hz0, hz⟩ := signV_R hq
          replace hz := hz.weak hs0
          conv => whnf
          refine ⟨hD.trans hFs, ?_⟩
          replace hD := hD.trans hFs
          have hs2 := hFs.size
          conv => whnf
          replace hB := hB.fr0 hFs
          refine EvDo.storeBlk (vs := z.cells) (cx_ok 0 []) rfl hB rfl rfl (SgV.one hz0) (by simp [rsOf]; omega) fun w' hFw hB' => ?_
          have hD' := hD.trans' hFw (by simp; omega)
          conv => whnf
          refine ⟨hD', ?_⟩
          conv => whnf
          exact ⟨(rb, z), by (refine SubS.mk ?_ ?_ <;> (repeat' (first | exact True.intro | refine And.intro ?_ ?_)) <;> (first | rfl | exact svi (by omega) | exact List.mem_cons_self | exact List.mem_cons_of_mem _ List.mem_cons_self | exact List.mem_cons_of_mem _ (List.mem_cons_of_mem _ List.mem_cons_self) | skip)), hD', hB', by omega, hz.frT hFw hB (by decide)⟩
      · conv => whnf
        have hs3 := hD.size
        refine EvNew.blk fun rb wA hrb hzA hFa hB => ?_
        conv => whnf
        refine ⟨hD.trans hFa, ?_⟩
        replace hD := hD.trans hFa
        conv => whnf
        conv => whnf
        have hs0 := hD.size
        refine EvCall.ret0 (fields_ok _) fun v wF hFf hq => ?_
        obtain ⟨gf, rfl, hrw, hgf⟩ := hq
        conv => whnf
        refine ⟨hD.trans hFf, ?_⟩
        replace hD := hD.trans hFf
        have hs1 := hFf.size
        conv => whnf
        replace hB := hB.fr0 hFf
        conv => whnf
        refine EvCall.ret0 (sign_ok hrw (by omega) x.n) fun v wS hFs hq => ?_
        obtain ⟨z, rfl, hz0, hz⟩ := signV_R hq
        replace hz := hz.weak hs0
        conv => whnf
        refine ⟨hD.trans hFs, ?_⟩
        replace hD := hD.trans hFs
        have hs2 := hFs.size
        conv => whnf
        replace hB := hB.fr0 hFs
        refine EvDo.storeBlk (vs := z.cells) (cx_ok 0 []) rfl hB rfl rfl (SgV.one hz0) (by simp [rsOf]; omega) fun w' hFw hB' => ?_
        have hD' := hD.trans' hFw (by simp; omega)
        conv => whnf
        refine ⟨hD', ?_⟩
        conv => whnf
        exact ⟨(rb, z), by (refine SubS.mk ?_ ?_ <;> (repeat' (first | exact True.intro | refine And.intro ?_ ?_)) <;> (first | rfl | exact svi (by omega) | exact List.mem_cons_self | exact List.mem_cons_of_mem _ List.mem_cons_self | exact List.mem_cons_of_mem _ (List.mem_cons_of_mem _ List.mem_cons_self) | skip)), hD', hB', by omega, hz.frT hFw hB (by decide)⟩
    rintro ⟨rb, nm, Az, nz, tell, fv, ok⟩ w3 ⟨hF3, hz1, hz2, hz3⟩
    have hG3 := hG.trans hF3
    have hne2 : rb ≠ kb := by have := h2.blk.lt; omega
    have hl1 : (((kidsL t i).length : Int) == 1) = (ks.heads.length == 1) := by
      rw [hkl, Fo.heads_length]
      by_cases hh : ks.len = 1
      · rw [hh]; rfl
      · rw [beq_eq_false_iff_ne.2 hh, beq_eq_false_iff_ne.2 (by omega)]
    have hR' : R = (signL fieldsL x.n).bind fun s_1 => if ks.heads.length == 1 && likeB x s_1.tell x.n 0 then (wantL (kh (exprs s.slots s.seen ks) 0) (s_1.args.getD 0 0)).map fun h => (s_1.tell, h) else none := by
      rw [← hR]; unfold stepE; rw [if_neg o1, if_neg (by omega), if_neg o4, if_pos o5]
    rcases hz3.elim with ⟨sg, g, f, z1, rfl, rfl, rfl, rfl, rfl, z7, z8⟩ | ⟨z1, rfl⟩
    rotate_left
    · have hn : R = none := by rw [hR', z1]; rfl
      conv => whnf
      refine EvSplit.ff ?_
      conv => whnf
      refine EvCall.ret (must_ok (h2.fr0 hF3) false) (by simpa [rsOf] using hne1) fun v w4 hF4 hq => ?_
      obtain ⟨rfl, h4⟩ := hq
      conv => whnf
      refine EvSplit.any (fun b3 => ?_) (fun b3 => ?_)
      · conv => whnf
        rw [hn]
        exact ⟨hG3.nil.trans hF4, 0, 0, rfl, by omega, by omega, h4, fun _ _ hq => by cases hq⟩
      · exact absurd b3 (by simp [mustL])
    conv => whnf
    refine EvSplit.tt ?_
    conv => whnf
    rw [hl1]
    refine EvCall.ret (must_ok (h2.fr0 hF3) _) (by simpa [rsOf] using hne1) fun v w4 hF4 hq => ?_
    obtain ⟨rfl, h4⟩ := hq
    have hG4 := hG3.nil.trans hF4
    conv => whnf
    refine EvSplit.any (fun b3 => ?_) (fun b3 => ?_)
    · have hl0 : (ks.heads.length == 1) = false := by
        have : (mustL (ks.heads.length == 1) s).bad = true := by simpa using b3
        cases hc : ks.heads.length == 1
        · rfl
        · rw [hc, mustL_true, b1] at this; cases this
      have hn : R = none := by rw [hR', z1, hl0]; rfl
      conv => whnf
      rw [hl0] at h4
      rw [hn]
      exact ⟨hG4, 0, 0, rfl, by omega, by omega, h4, fun _ _ hq => by cases hq⟩
    obtain ⟨_, hl0⟩ := mustL_ok (show (mustL (ks.heads.length == 1) s).bad = false by simpa using b3)
    rw [hl0, mustL_true] at h4
    have hz4 := hz1.fr hF4 (by simpa using hne2)
    conv => whnf
    refine EvLd.blk hz4 rfl ?_
    conv => whnf
    refine EvCall.ret (like_ok h4 hlt sg.tell x.n 0) (by simpa [rsOf] using hne1) fun v w5 hF5 hq => ?_
    rw [hget] at hq
    obtain ⟨rfl, h5⟩ := hq
    have hG5 := hG4.trans hF5
    conv => whnf
    refine EvIf.any (fun b4 => ?_) (fun b4 => ?_)
    · have hk0 : likeB x sg.tell x.n 0 = false := by
        have : (mustL (likeB x sg.tell x.n 0) s).bad = true := by simpa using b4
        cases hc : likeB x sg.tell x.n 0
        · rfl
        · rw [hc, mustL_true, b1] at this; cases this
      have hn : R = none := by rw [hR', z1]; simp [hk0]
      conv => whnf
      rw [hk0] at h5
      rw [hn]
      exact ⟨hG5, 0, 0, rfl, by omega, by omega, h5, fun _ _ hq => by cases hq⟩
    obtain ⟨_, hk0⟩ := mustL_ok (show (mustL (likeB x sg.tell x.n 0) s).bad = false by simpa using b4)
    rw [hk0, mustL_true] at h5
    have hkl1 : ks.len = 1 := by have := beq_iff_eq.1 hl0; rw [Fo.heads_length] at this; exact this
    obtain ⟨p0, y0, kk0, r0', f1, f2, f3, f4, f5, f6⟩ := fo_tree s.slots s.seen (j := 0) hfo.2.2.1 (by omega)
    have hkd0 : (kidsL t i)[0]? = some (p0 : Int) := by rw [kidsL_fo hfo, List.getElem?_map, f2]; rfl
    have hx0 : kh (exprs s.slots s.seen ks) 0 = stepE s.slots s.seen y0 kk0.heads (exprs s.slots s.seen kk0) := by unfold kh; rw [f4]; rfl
    have hp0 := f5.lt
    have he0 : ExprOk t p0 y0 kk0 := ih 0 p0 y0 kk0 f1
    have hargs : sg.args ≠ [] := signL_args z1
    obtain ⟨a0, ar, hare⟩ : ∃ a0 ar, sg.args = a0 :: ar := List.exists_cons_of_ne_nil hargs
    have hR2 : R = (wantL (stepE s.slots s.seen y0 kk0.heads (exprs s.slots s.seen kk0)) a0).map fun h => (sg.tell, h) := by
      rw [hR', z1, Option.bind_some, hl0, hk0, hx0, hare]; rfl
    have hz5 := hz4.fr hF5 (by simpa using hne2)
    have hgk : g ≠ kb := z7.ne_ty (h2.fr0 hF3).blk (by decide)
    have hg5 := (z7.fr hF4 (by simpa using hgk)).fr hF5 (by simpa using hgk)
    have hF25 : Fr [kb] w2 w5 := (hF3.nil.trans hF4).trans hF5
    have hA5 : IntsAt w5 A (kidsL t i) := Rows.fr hA hF25 fun a ha => by simpa using hA3 a ha
    conv => whnf
    refine EvDraw.go (fun w' => Fr [kb] w5 w') none (.take 0 true (.take 1 true (.take 2 true (.take 3 true (.take 4 true (.take 5 true (.take 6 true (.take 7 true (.take 8 true (.take 9 true (.exec 10 (.take 11 true (.take 12 true .done))))))))))))) (by kernel_rfl) ?_ ?_
    · exact (Fr.drew _).nil
    conv => whnf
    refine ⟨_, fun w' hw => (hz5.fr hw.1 (by simpa using hne2)).add rfl, ?_⟩
    conv => whnf
    refine EvIdx.ints hA5 (by omega) (by omega) rfl rfl fun ab hab => ?_
    conv => whnf
    refine ⟨_, fun w' hw => IntsAt.cell (Rows.fr hA5 hw.1 fun a ha => by simpa using hA3 a ha) hab hkd0, ?_⟩
    conv => whnf
    refine ⟨_, fun w' hw => (hz5.fr hw.1 (by simpa using hne2)).add rfl, ?_⟩
    conv => whnf
    rw [hare]
    refine EvIdx.one (by omega) (by simp) rfl ?_
    conv => whnf
    refine ⟨_, fun w' hw => (hg5.fr hw.1 (by simpa using hgk)).add (by rw [hare]; rfl), ?_⟩
    conv => whnf
    refine EvCall.ret (wanted_ok he0 (h5.fr0 (Fr.drew w5)) hs hl a0) (by simpa [rsOf] using hne1) fun v w6 hF6 hq => ?_
    obtain ⟨gg, rfl, c1, c2, h6, c4⟩ := hq
    conv => whnf
    refine ⟨((Fr.drew w5).nil).trans hF6, ?_⟩
    conv => whnf
    refine ⟨(hG5.trans (Fr.drew w5).nil).trans hF6, sg.tell, gg, rfl, c1, by omega, ?_, fun hb q hq => ?_⟩
    · rw [hR2, Option.isSome_map]; exact h6
    · rw [hR2] at hq
      obtain ⟨u, u1, u2⟩ := Option.map_eq_some_iff.1 hq
      rw [← u2, c4 hb u u1]
  conv => whnf
  refine EvIf.eq (fun o6 => ?_) (fun o6 => ?_)
  · conv => whnf
    refine EvDraw.meet (Nat × SgV) (fun (rb, z) => ⟨[(0, .v (kp kb)), (1, .v (.int .i64 i)), (6, .bp 0 r1 0), (7, .v (.slice A (kidsL t i).length c)), (13, .v (.pointer (some ⟨rb, 0, none⟩))), (14, .v (.bool z.ok))], [⟨0, r1, 53, x.cells⟩], 1⟩) (fun (rb, z) w' => Fr [] w2 w' ∧ HB w' rb 146 z.cells ∧ w2.heap.size ≤ rb ∧ SgR w2.heap.size funcsL x.n w' z) (fun w' => Fr [] w2 w') none (.take 1 true (.take 2 true (.two 0 (.two 3 (.take 4 true (.take 5 true (.take 6 true (.exec 7 (.exec 8 (.take 9 true .done)))))) 7 (.exec 3 (.take 4 true (.take 5 true (.take 6 true (.exec 8 (.take 9 true .done))))))) 7 (.exec 0 (.exec 3 (.take 4 true (.take 5 true (.take 6 true (.exec 8 (.take 9 true .done)))))))))) (by kernel_rfl) ?_ ?_ ?_
    · exact Fr.drew _
    · have hD := Fr.drew w2
      conv => whnf
      refine ⟨?_, ?_⟩
      · conv => whnf
        have hs0 := hD.size
        refine EvCall.ret0 (funcs_ok _) fun v wF hFf hq => ?_
        obtain ⟨gf, rfl, hrw, hgf⟩ := hq
        conv => whnf
        refine ⟨hD.trans hFf, ?_⟩
        replace hD := hD.trans hFf
        have hs1 := hFf.size
        conv => whnf
        refine ⟨?_, ?_⟩
        · conv => whnf
          refine EvCall.ret0 (sign_ok hrw (by omega) x.n) fun v wS hFs hq => ?_
          obtain ⟨z, rfl, hz0, hz⟩ := signV_R hq
          replace hz := hz.weak hs0
          conv => whnf
          refine ⟨hD.trans hFs, ?_⟩
          replace hD := hD.trans hFs
          have hs2 := hFs.size
          conv => whnf
          conv => whnf
          have hs3 := hD.size
          refine EvNew.blk fun rb wA hrb hzA hFa hB => ?_
          conv => whnf
          refine ⟨hD.trans hFa, ?_⟩
          replace hD := hD.trans hFa
          conv => whnf
          replace hz := hz.fr (S := []) hFa (by simp)
          refine EvDo.storeBlk (vs := z.cells) (cx_ok 0 []) rfl hB rfl rfl (SgV.one hz0) (by simp [rsOf]; omega) fun w' hFw hB' => ?_
          have hD' := hD.trans' hFw (by simp; omega)
          conv => whnf
          refine ⟨hD', ?_⟩
          conv => whnf
          exact ⟨(rb, z), by (refine SubS.mk ?_ ?_ <;> (repeat' (first | exact True.intro | refine And.intro ?_ ?_)) <;> (first | rfl | exact svi (by omega) | exact List.mem_cons_self | exact List.mem_cons_of_mem _ List.mem_cons_self | exact List.mem_cons_of_mem _ (List.mem_cons_of_mem _ List.mem_cons_self) | skip)), hD', hB', by omega, hz.frT hFw hB (by decide)⟩
        · conv => whnf
          have hs3 := hD.size
          refine EvNew.blk fun rb wA hrb hzA hFa hB => ?_
          conv => whnf
          refine ⟨hD.trans hFa, ?_⟩
          replace hD := hD.trans hFa
          conv => whnf
          have hrw' := hrw
          replace hrw := RowsOf.frQ (S := []) (Q := fun _ => True) (fun _ _ h => h.fr hFa (by simp)) hrw (fun _ _ => trivial) hFa (by simp)
          conv => whnf
          refine EvCall.ret0 (sign_ok hrw (by omega) x.n) fun v wS hFs hq => ?_
          obtain ⟨z, rfl, hz0, hz⟩ := signV_R hq
          replace hz := hz.weak hs0
          conv => whnf
          refine ⟨hD.trans hFs, ?_⟩
          replace hD := hD.trans hFs
          have hs2 := hFs.size
          conv => whnf
          replace hB := hB.fr0 hFs
          refine EvDo.storeBlk (vs := z.cells) (cx_ok 0 []) rfl hB rfl rfl (SgV.one hz0) (by simp [rsOf]; omega) fun w' hFw hB' => ?_
          have hD' := hD.trans' hFw (by simp; omega)
          conv => whnf
          refine ⟨hD', ?_⟩
          conv => whnf
          exact ⟨(rb, z), by (refine SubS.mk ?_ ?_ <;> (repeat' (first | exact True.intro | refine And.intro ?_ ?_)) <;> (first | rfl | exact svi (by omega) | exact List.mem_cons_self | exact List.mem_cons_of_mem _ List.mem_cons_self | exact List.mem_cons_of_mem _ (List.mem_cons_of_mem _ List.mem_cons_self) | skip)), hD', hB', by omega, hz.frT hFw hB (by decide)⟩
      · conv => whnf
        have hs3 := hD.size
        refine EvNew.blk fun rb wA hrb hzA hFa hB => ?_
        conv => whnf
        refine ⟨hD.trans hFa, ?_⟩
        replace hD := hD.trans hFa
        conv => whnf
        conv => whnf
        have hs0 := hD.size
        refine EvCall.ret0 (funcs_ok _) fun v wF hFf hq => ?_
        obtain ⟨gf, rfl, hrw, hgf⟩ := hq
        conv => whnf
        refine ⟨hD.trans hFf, ?_⟩
        replace hD := hD.trans hFf
        have hs1 := hFf.size
        conv => whnf
        replace hB := hB.fr0 hFf
        conv => whnf
        refine EvCall.ret0 (sign_ok hrw (by omega) x.n) fun v wS hFs hq => ?_
        obtain ⟨z, rfl, hz0, hz⟩ := signV_R hq
        replace hz := hz.weak hs0
        conv => whnf
        refine ⟨hD.trans hFs, ?_⟩
        replace hD := hD.trans hFs
        have hs2 := hFs.size
        conv => whnf
        replace hB := hB.fr0 hFs
        refine EvDo.storeBlk (vs := z.cells) (cx_ok 0 []) rfl hB rfl rfl (SgV.one hz0) (by simp [rsOf]; omega) fun w' hFw hB' => ?_
        have hD' := hD.trans' hFw (by simp; omega)
        conv => whnf
        refine ⟨hD', ?_⟩
        conv => whnf
        exact ⟨(rb, z), by (refine SubS.mk ?_ ?_ <;> (repeat' (first | exact True.intro | refine And.intro ?_ ?_)) <;> (first | rfl | exact svi (by omega) | exact List.mem_cons_self | exact List.mem_cons_of_mem _ List.mem_cons_self | exact List.mem_cons_of_mem _ (List.mem_cons_of_mem _ List.mem_cons_self) | skip)), hD', hB', by omega, hz.frT hFw hB (by decide)⟩
    rintro ⟨rb, nm, Az, nz, tell, fv, ok⟩ w3 ⟨hF3, hz1, hz2, hz3⟩
    have hG3 := hG.trans hF3
    have hne2 : rb ≠ kb := by have := h2.blk.lt; omega
    have hR' : R = (signL funcsL x.n).bind fun s_1 => (callL s_1 x ks.heads (exprs s.slots s.seen ks)).map fun h => (s_1.tell, maxL 1 h) := by
      rw [← hR]; unfold stepE; rw [if_neg o1, if_neg (by omega), if_neg o4, if_neg o5, if_pos o6]
    rcases hz3.elim with ⟨sg, g, f, z1, rfl, rfl, rfl, rfl, rfl, z7, z8⟩ | ⟨z1, rfl⟩
    rotate_left
    · have hn : R = none := by rw [hR', z1]; rfl
      conv => whnf
      refine EvCall.ret (must_ok (h2.fr0 hF3) false) (by simpa [rsOf] using hne1) fun v w4 hF4 hq => ?_
      obtain ⟨rfl, h4⟩ := hq
      conv => whnf
      refine EvIf.any (fun b3 => ?_) (fun b3 => ?_)
      · conv => whnf
        rw [hn]
        exact ⟨hG3.nil.trans hF4, 0, 0, rfl, by omega, by omega, h4, fun _ _ hq => by cases hq⟩
      · exact absurd b3 (by simp [mustL])
    conv => whnf
    refine EvCall.ret (must_ok (h2.fr0 hF3) true) (by simpa [rsOf] using hne1) fun v w4 hF4 hq => ?_
    obtain ⟨rfl, h4⟩ := hq
    rw [mustL_true] at h4 ⊢
    have hG4 := hG3.nil.trans hF4
    conv => whnf
    refine EvIf.any (fun b3 => ?_) (fun b3 => ?_)
    · rw [b1] at b3; cases b3
    have hz4 := hz1.fr hF4 (by simpa using hne2)
    have hgk : g ≠ kb := z7.ne_ty (h2.fr0 hF3).blk (by decide)
    have hg4 := z7.fr hF4 (by simpa using hgk)
    have hF24 : Fr [kb] w2 w4 := hF3.nil.trans hF4
    have hA4 : IntsAt w4 A (kidsL t i) := Rows.fr hA hF24 fun a ha => by simpa using hA3 a ha
    conv => whnf
    refine EvDraw.go (fun w' => Fr [kb] w4 w') none (.take 0 true (.take 1 true (.take 2 true (.take 3 true (.take 4 true (.take 5 true (.exec 6 (.take 7 true (.take 8 true (.take 9 true .done)))))))))) (by kernel_rfl) ?_ ?_
    · exact (Fr.drew _).nil
    conv => whnf
    refine ⟨_, fun w' hw => (hz4.fr hw.1 (by simpa using hne2)).add rfl, ?_⟩
    conv => whnf
    refine ⟨_, rfl, fun w' hw j v hj => (hz4.fr hw.1 (by simpa using hne2)).add0 hj, ?_⟩
    conv => whnf
    have hFd : Fr [kb] w4 w4.drew := (Fr.drew w4).nil
    refine EvCall.ret (call_ok hfo ht ih (h4.fr0 (Fr.drew w4)) hs hl (hA4.fr0 (Fr.drew w4)) hA3 hsm (hg4.fr0 (Fr.drew w4))) (by simpa [rsOf] using hne1) fun v w5 hF5 hq => ?_
    obtain ⟨q, rfl, c1, c2, h5, c4⟩ := hq
    conv => whnf
    refine ⟨hFd.trans hF5, ?_⟩
    conv => whnf
    refine ⟨(hG4.trans hFd).trans hF5, sg.tell, maxL 1 q, rfl, by unfold maxL; split <;> omega, by unfold maxL; split <;> omega, ?_, fun hb q' hq' => ?_⟩
    · rw [hR', z1, Option.bind_some, Option.isSome_map]; exact h5
    · rw [hR', z1, Option.bind_some] at hq'
      obtain ⟨u, u1, u2⟩ := Option.map_eq_some_iff.1 hq'
      rw [← u2, c4 hb u u1]
  conv => whnf
  have hR' : R = operL x ks.heads (exprs s.slots s.seen ks) := by
    rw [← hR]; unfold stepE; rw [if_neg o1, if_neg (by omega), if_neg o4, if_neg o5, if_neg o6]
  refine EvCall.ret (oper_ok hfo ht ih h2 hs hl hA hA3) (by simpa [rsOf] using hne1) fun v w3 hF3 hq => ?_
  obtain ⟨k, q, rfl, c1, c2, h3, c4⟩ := hq
  conv => whnf
  exact ⟨hG.nil.trans hF3, k, q, rfl, c1, c2, by rw [hR']; exact h3, fun hb q' hq' => c4 hb q' (by rw [← hR']; exact hq')⟩

/-- Every tree of a forest that stands in t meets the contract of expressions. -/
theorem expr_all (ht : t.length ≤ 2000) (hsm : ∀ p (hp : p < t.length), t[p].text.size ≤ 140737488355328) : ∀ (f : Fo) (i : Nat), FoAt t i f → ∀ (j p : Nat) y kk, (f.at_ i)[j]? = some (p, y, kk) → ExprOk t p y kk
  | .nil, _, _, _, _, _, _, h => by simp [Fo.at_] at h
  | .cons x ks r, i, hf, 0, p, y, kk, h => by
    simp [Fo.at_] at h
    obtain ⟨rfl, rfl, rfl⟩ := h
    exact expr_step hf ht (expr_all ht hsm ks (i + 1) hf.2.2.1) hsm
  | .cons x ks r, i, hf, j + 1, p, y, kk, h => expr_all ht hsm r _ hf.2.2.2 j p y kk (by simpa [Fo.at_] using h)
end
end Go.Proofs.Tab
