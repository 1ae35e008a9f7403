/- Package emit: the walk of node, and all nodes. No condition. -/
import Derived.Test.YtmjalmocaiokhaaGreatEmitN
set_option linter.unusedVariables false
set_option linter.unusedSimpArgs false
set_option maxRecDepth 100000
namespace Go.Proofs.Tab
open Go Go.Fw

theorem tab_look {w : World} {tr : Nat} {f : Int → Option (Nat × List Value)} (h : HM w tr (fun n => Value.int .i8 n) funR f) {op : Int} {p : Nat × List Value} (hf : f op = some p) :
    (Instr.lookup 87 (.map (some tr)) (.int .i8 op) false).run Tryz.prog w = .ok (.agg #[.func (.func p.1) #[] p.2.toArray]) w := by
  obtain ⟨es, c, h1, h2, h3, _, _, h4⟩ := h.find (Ky.int .i8) op
  have hk : KeyCls (cx 0 []) 51 (.int .i8) := KeyCls.int rfl
  have hku := hk.und (cx_ok 0 [])
  have ht : ((cx 0 []).ty 87).cls = .map 51 110 := rfl
  rcases h4 with ⟨g1, g2, _⟩ | ⟨j, e, b, g1, g2, g3, g4, g5⟩
  · rw [g2] at hf; cases hf
  · rw [hf] at g4; injection g4 with g4; subst g4
    have : e.val = .agg #[.func (.func p.1) #[] p.2.toArray] := g5
    simp [Instr.lookup, run_underlying (COk.map (cx_ok 0 []) ht), MapKept.run_getObj_map h1, MapKept.run_checkKey hku ((Ky.int .i8).isKey op), MapKept.run_findKey hku g1, Result.andThen, this]

section
variable {E : MEnv} {i : Nat} {x : Nd} {ks r : Fo}


theorem node_step (hfo : FoAt E.t i (.cons x ks r))
    (hH : (∃ g, tabF x.op = some g ∧ HOk g E i x ks [] (emStep E.P x ks.heads (ems E.P ks))) ∨
      (∃ c, tabF x.op = none ∧ plainC x.op = some c ∧ KidsOk E i ks ∧ (∀ p ∈ wfs ks, p) ∧ emStep E.P x ks.heads (ems E.P ks) = fun s => opM c [] (seqM (ems E.P ks) s))) : NodeOk E i x ks := by
  intro s w h hb hb2
  have hlt := hfo.lt
  have hget := hfo.get
  obtain ⟨f, htab, ht1, ht2⟩ := h.env.tab
  rcases hH with ⟨g, hg, hH⟩ | ⟨c, hg, hpc, ihN, hw, he⟩
  · have hf := ht1 _ _ hg
    refine fn_goQ (cx_ok 29 [4]) wideOrders Tryz.func39 rfl rfl Tryz.call39 (by simp [cx]) ?_; conv => whnf
    obtain ⟨bv, lv, lvs, hm⟩ := h.me
    refine EvLd.blk hm.blk rfl ?_
    conv => whnf
    refine EvIdx.nd h.env.tree hlt rfl fun a ha => ?_
    conv => whnf
    refine EvLdN.nd h.env.tree ha hlt rfl ?_
    rw [hget]
    conv => whnf
    refine EvNew.blk fun r4 w1 hr4 hz4 hF1 hB1 => ?_
    conv => whnf
    refine EvDo.storeBlk (vs := x.cells) (cx_ok 0 []) rfl hB1 rfl rfl (by simp [Nd.cells, Value.oneCell']) (by simp [rsOf]) fun w2 hF2 hB2 => ?_
    conv => whnf
    have hF02 : Fr [] w w2 := hF1.trans' hF2 (by simp; omega)
    have hm2 := hm.fr0 hF02
    have h2 := h.fr0 hF02
    refine EvDraw.go (fun w' => Fr [] w2 w') (some 16) (.take 0 true (.take 1 true (.take 2 true (.take 3 true (.take 4 true (.take 5 true (.take 6 true (.take 7 true (.take 8 true (.take 9 true (.take 10 true (.take 11 true (.take 12 true (.take 13 true (.take 14 true (.exec 15 (.exec 16 .done))))))))))))))))) (by kernel_rfl) ?_ ?_
    · exact Fr.drew _
    conv => whnf
    refine ⟨_, fun w' hw => (hm2.blk.fr0 hw.1).add rfl, ?_⟩
    conv => whnf
    refine ⟨_, fun w' hw => (hB2.fr0 hw.1).cell (v := .int .i8 x.op) rfl, ?_⟩
    conv => whnf
    refine ⟨_, fun w' hw => tab_look (htab.fr0 (hF02.trans hw.1)) hf, ?_⟩
    conv => whnf
    refine ⟨_, rfl, fun w' hw j v hj => (hB2.fr0 hw.1).add0 hj, ?_⟩
    conv => whnf
    refine ⟨_, fun w' hw => (hm2.blk.fr0 hw.1).add rfl, ?_⟩
    conv => whnf
    have hFd := Fr.drew w2
    refine EvCall.ret0 (kids_own E.At E.ct E.t i w2.drew ((h2.fr0 hFd).env.tree) (by have := h.env.hl; omega) (by omega) (by have := h.env.hl; omega)) fun v w3 hF3 hq => ?_
    obtain ⟨lA, lc, rfl, _, hA2, _, hown⟩ := hq
    have hF23 := hFd.trans hF3
    have h3 := h2.fr0 hF23
    have hl3 : KAt E i lA lc w3 := ⟨hown, fun k hk => by
      have e1 : w2.drew.heap.size ≤ k := by
        cases lA with
        | none => cases hk
        | some a' => injection hk with hk; rw [← hk]; exact hA2 a' rfl
      have := hm2.blk.lt
      have := hFd.size
      simp; omega⟩
    conv => whnf
    refine ⟨hF23, ?_⟩
    conv => whnf
    refine EvCall.retQ0 (hH h3 hl3 (by omega) (by omega)) fun v w4 hq => ?_
    obtain ⟨rfl, tf, h4⟩ := hq
    conv => whnf
    exact ⟨rfl, (TF.fr0 (hF02.trans hF23)).trans tf, h4⟩
  · obtain ⟨rc, hf, hrc, hBc⟩ := ht2 _ _ hg hpc
    refine fn_goQ (cx_ok 29 [4]) wideOrders Tryz.func39 rfl rfl Tryz.call39 (by simp [cx]) ?_; conv => whnf
    obtain ⟨bv, lv, lvs, hm⟩ := h.me
    refine EvLd.blk hm.blk rfl ?_
    conv => whnf
    refine EvIdx.nd h.env.tree hlt rfl fun a ha => ?_
    conv => whnf
    refine EvLdN.nd h.env.tree ha hlt rfl ?_
    rw [hget]
    conv => whnf
    refine EvNew.blk fun r4 w1 hr4 hz4 hF1 hB1 => ?_
    conv => whnf
    refine EvDo.storeBlk (vs := x.cells) (cx_ok 0 []) rfl hB1 rfl rfl (by simp [Nd.cells, Value.oneCell']) (by simp [rsOf]) fun w2 hF2 hB2 => ?_
    conv => whnf
    have hF02 : Fr [] w w2 := hF1.trans' hF2 (by simp; omega)
    have hm2 := hm.fr0 hF02
    have h2 := h.fr0 hF02
    refine EvDraw.go (fun w' => Fr [] w2 w') (some 16) (.take 0 true (.take 1 true (.take 2 true (.take 3 true (.take 4 true (.take 5 true (.take 6 true (.take 7 true (.take 8 true (.take 9 true (.take 10 true (.take 11 true (.take 12 true (.take 13 true (.take 14 true (.exec 15 (.exec 16 .done))))))))))))))))) (by kernel_rfl) ?_ ?_
    · exact Fr.drew _
    conv => whnf
    refine ⟨_, fun w' hw => (hm2.blk.fr0 hw.1).add rfl, ?_⟩
    conv => whnf
    refine ⟨_, fun w' hw => (hB2.fr0 hw.1).cell (v := .int .i8 x.op) rfl, ?_⟩
    conv => whnf
    refine ⟨_, fun w' hw => tab_look (htab.fr0 (hF02.trans hw.1)) hf, ?_⟩
    conv => whnf
    refine ⟨_, rfl, fun w' hw j v hj => (hB2.fr0 hw.1).add0 hj, ?_⟩
    conv => whnf
    refine ⟨_, fun w' hw => (hm2.blk.fr0 hw.1).add rfl, ?_⟩
    conv => whnf
    have hFd := Fr.drew w2
    refine EvCall.ret0 (kids_own E.At E.ct E.t i w2.drew ((h2.fr0 hFd).env.tree) (by have := h.env.hl; omega) (by omega) (by have := h.env.hl; omega)) fun v w3 hF3 hq => ?_
    obtain ⟨lA, lc, rfl, _, hA2, _, hown⟩ := hq
    have hF23 := hFd.trans hF3
    have h3 := h2.fr0 hF23
    have hl3 : KAt E i lA lc w3 := ⟨hown, fun k hk => by
      have e1 : w2.drew.heap.size ≤ k := by
        cases lA with
        | none => cases hk
        | some a' => injection hk with hk; rw [← hk]; exact hA2 a' rfl
      have := hm2.blk.lt
      have := hFd.size
      simp; omega⟩
    conv => whnf
    refine ⟨hF23, ?_⟩
    conv => whnf
    refine EvCall.retQ0 (plain_ok hfo ihN hw h3 hl3 (by omega) (by omega) hrc (hBc.fr0 (hF02.trans hF23))) fun v w4 hq => ?_
    obtain ⟨rfl, tf, h4⟩ := hq
    conv => whnf
    rw [he]
    exact ⟨rfl, (TF.fr0 (hF02.trans hF23)).trans tf, h4⟩

theorem node_of (hfo : FoAt E.t i (.cons x ks r)) (ihN : KidsOk E i ks) (hw : wfStep x ks.heads (wfs ks)) : NodeOk E i x ks := by
  have hwl := wfs_length ks
  suffices hH : (∃ g, tabF x.op = some g ∧ HOk g E i x ks [] (emStep E.P x ks.heads (ems E.P ks))) ∨
      (∃ c, tabF x.op = none ∧ plainC x.op = some c ∧ KidsOk E i ks ∧ (∀ p ∈ wfs ks, p) ∧ emStep E.P x ks.heads (ems E.P ks) = fun s => opM c [] (seqM (ems E.P ks) s)) from @node_step E i x ks r hfo hH
  unfold wfStep at hw
  dsimp only at hw
  by_cases o10 : x.op = 10
  · rw [if_pos (by omega)] at hw
    refine .inl ⟨52, ?_, ?_⟩
    · unfold tabF; rw [if_pos (by omega)]
    · have he : emStep E.P x ks.heads (ems E.P ks) = fun s => seqM (ems E.P ks) s := by
        funext s; unfold emStep; rw [if_pos (by omega)]
      rw [he]
      exact @block_ok' E i x ks r hfo ihN hw
  by_cases o49 : x.op = 49
  · rw [if_pos (by omega)] at hw
    refine .inl ⟨64, ?_, ?_⟩
    · unfold tabF; rw [if_neg (by omega), if_neg (by omega), if_neg (by omega), if_neg (by omega), if_neg (by omega), if_neg (by omega), if_neg (by omega), if_neg (by omega), if_neg (by omega), if_neg (by omega), if_pos (by omega)]
    · have he : emStep E.P x ks.heads (ems E.P ks) = fun s => opM 46 [u8 x.n] (seqM (ems E.P ks) s) := by
        funext s; unfold emStep; rw [if_neg (by omega), if_neg (by omega), if_neg (by omega), if_neg (by omega), if_neg (by omega), if_neg (by omega), if_neg (by omega), if_neg (by omega), if_neg (by omega), if_neg (by omega), if_pos (by omega)]
      rw [he]
      exact @field_ok E i x ks r hfo ihN hw
  by_cases o19 : x.op = 19
  · rw [if_pos (by omega)] at hw
    refine .inl ⟨65, ?_, ?_⟩
    · unfold tabF; rw [if_neg (by omega), if_neg (by omega), if_neg (by omega), if_neg (by omega), if_neg (by omega), if_neg (by omega), if_neg (by omega), if_neg (by omega), if_neg (by omega), if_neg (by omega), if_neg (by omega), if_pos (by omega)]
    · have he : emStep E.P x ks.heads (ems E.P ks) = fun s => opM 60 [u8 x.n] (seqM (ems E.P ks) s) := by
        funext s; unfold emStep; rw [if_neg (by omega), if_neg (by omega), if_neg (by omega), if_neg (by omega), if_neg (by omega), if_neg (by omega), if_neg (by omega), if_neg (by omega), if_neg (by omega), if_neg (by omega), if_neg (by omega), if_pos (by omega)]
      rw [he]
      exact @do_ok E i x ks r hfo ihN hw
  by_cases o11 : x.op = 11
  · rw [if_pos (by omega)] at hw
    refine .inl ⟨68, ?_, ?_⟩
    · unfold tabF; rw [if_neg (by omega), if_neg (by omega), if_neg (by omega), if_neg (by omega), if_neg (by omega), if_neg (by omega), if_neg (by omega), if_neg (by omega), if_neg (by omega), if_neg (by omega), if_neg (by omega), if_neg (by omega), if_pos (by omega)]
    · have he : emStep E.P x ks.heads (ems E.P ks) = fun s => opM 5 [u8 x.n] (seqM (ems E.P ks) s) := by
        funext s; unfold emStep; rw [if_neg (by omega), if_neg (by omega), if_neg (by omega), if_neg (by omega), if_neg (by omega), if_neg (by omega), if_neg (by omega), if_neg (by omega), if_neg (by omega), if_neg (by omega), if_neg (by omega), if_neg (by omega), if_pos (by omega)]
      rw [he]
      exact @store_ok E i x ks r hfo ihN hw
  by_cases o12 : x.op = 12
  · rw [if_pos (by omega)] at hw
    refine .inl ⟨68, ?_, ?_⟩
    · unfold tabF; rw [if_neg (by omega), if_neg (by omega), if_neg (by omega), if_neg (by omega), if_neg (by omega), if_neg (by omega), if_neg (by omega), if_neg (by omega), if_neg (by omega), if_neg (by omega), if_neg (by omega), if_neg (by omega), if_pos (by omega)]
    · have he : emStep E.P x ks.heads (ems E.P ks) = fun s => opM 5 [u8 x.n] (seqM (ems E.P ks) s) := by
        funext s; unfold emStep; rw [if_neg (by omega), if_neg (by omega), if_neg (by omega), if_neg (by omega), if_neg (by omega), if_neg (by omega), if_neg (by omega), if_neg (by omega), if_neg (by omega), if_neg (by omega), if_neg (by omega), if_neg (by omega), if_pos (by omega)]
      rw [he]
      exact @store_ok E i x ks r hfo ihN hw
  by_cases o14 : x.op = 14
  · rw [if_pos (by omega)] at hw
    refine .inl ⟨62, ?_, ?_⟩
    · unfold tabF; rw [if_neg (by omega), if_neg (by omega), if_neg (by omega), if_neg (by omega), if_neg (by omega), if_neg (by omega), if_neg (by omega), if_neg (by omega), if_pos (by omega)]
    · have he : emStep E.P x ks.heads (ems E.P ks) = fun s => repeatM E.P x (ems E.P ks) s := by
        funext s; unfold emStep; rw [if_neg (by omega), if_neg (by omega), if_neg (by omega), if_neg (by omega), if_neg (by omega), if_neg (by omega), if_neg (by omega), if_neg (by omega), if_pos (by omega)]
      rw [he]
      exact @repeat_ok E i x ks r hfo ihN hw
  by_cases o30 : x.op = 30
  · rw [if_neg (by omega), if_pos (by omega)] at hw
    refine .inl ⟨54, ?_, ?_⟩
    · unfold tabF; rw [if_neg (by omega), if_pos (by omega)]
    · have he : emStep E.P x ks.heads (ems E.P ks) = fun s => pushM E.P x.n s := by
        funext s; unfold emStep; rw [if_neg (by omega), if_pos (by omega)]
      rw [he]
      exact @num_ok E i x ks r hfo
  by_cases o33 : x.op = 33
  · rw [if_neg (by omega), if_pos (by omega)] at hw
    refine .inl ⟨56, ?_, ?_⟩
    · unfold tabF; rw [if_neg (by omega), if_neg (by omega), if_pos (by omega)]
    · have he : emStep E.P x ks.heads (ems E.P ks) = fun s => opM 4 [u8 x.n] s := by
        funext s; unfold emStep; rw [if_neg (by omega), if_neg (by omega), if_pos (by omega)]
      rw [he]
      exact @name_ok E i x ks r hfo
  by_cases o36 : x.op = 36
  · rw [if_neg (by omega), if_neg (by omega), if_pos (by omega)] at hw
    refine .inl ⟨57, ?_, ?_⟩
    · unfold tabF; rw [if_neg (by omega), if_neg (by omega), if_neg (by omega), if_pos (by omega)]
    · have he : emStep E.P x ks.heads (ems E.P ks) = fun s => orM (ems E.P ks) s := by
        funext s; unfold emStep; rw [if_neg (by omega), if_neg (by omega), if_neg (by omega), if_pos (by omega)]
      rw [he]
      exact @or_ok E i x ks r hfo ihN hw.1 hw.2
  by_cases o37 : x.op = 37
  · rw [if_neg (by omega), if_neg (by omega), if_pos (by omega)] at hw
    refine .inl ⟨58, ?_, ?_⟩
    · unfold tabF; rw [if_neg (by omega), if_neg (by omega), if_neg (by omega), if_neg (by omega), if_pos (by omega)]
    · have he : emStep E.P x ks.heads (ems E.P ks) = fun s => andM (ems E.P ks) s := by
        funext s; unfold emStep; rw [if_neg (by omega), if_neg (by omega), if_neg (by omega), if_neg (by omega), if_pos (by omega)]
      rw [he]
      exact @and_ok E i x ks r hfo ihN hw.1 hw.2
  by_cases o38 : x.op = 38
  · rw [if_neg (by omega), if_neg (by omega), if_neg (by omega), if_pos (by omega)] at hw
    refine .inl ⟨59, ?_, ?_⟩
    · unfold tabF; rw [if_neg (by omega), if_neg (by omega), if_neg (by omega), if_neg (by omega), if_neg (by omega), if_pos (by omega)]
    · have he : emStep E.P x ks.heads (ems E.P ks) = fun s => equalM x ks.heads (ems E.P ks) s := by
        funext s; unfold emStep; rw [if_neg (by omega), if_neg (by omega), if_neg (by omega), if_neg (by omega), if_neg (by omega), if_pos (by omega)]
      rw [he]
      exact @equal_ok E i x ks r hfo ihN hw.1 (by rw [← hwl]; exact hw.2)
  by_cases o39 : x.op = 39
  · rw [if_neg (by omega), if_neg (by omega), if_neg (by omega), if_pos (by omega)] at hw
    refine .inl ⟨59, ?_, ?_⟩
    · unfold tabF; rw [if_neg (by omega), if_neg (by omega), if_neg (by omega), if_neg (by omega), if_neg (by omega), if_pos (by omega)]
    · have he : emStep E.P x ks.heads (ems E.P ks) = fun s => equalM x ks.heads (ems E.P ks) s := by
        funext s; unfold emStep; rw [if_neg (by omega), if_neg (by omega), if_neg (by omega), if_neg (by omega), if_neg (by omega), if_pos (by omega)]
      rw [he]
      exact @equal_ok E i x ks r hfo ihN hw.1 (by rw [← hwl]; exact hw.2)
  by_cases o50 : x.op = 50
  · rw [if_neg (by omega), if_neg (by omega), if_neg (by omega), if_neg (by omega), if_pos (by omega)] at hw
    refine .inl ⟨60, ?_, ?_⟩
    · unfold tabF; rw [if_neg (by omega), if_neg (by omega), if_neg (by omega), if_neg (by omega), if_neg (by omega), if_neg (by omega), if_pos (by omega)]
    · have he : emStep E.P x ks.heads (ems E.P ks) = fun s => callM E.P x ks.heads (ems E.P ks) s := by
        funext s; unfold emStep; rw [if_neg (by omega), if_neg (by omega), if_neg (by omega), if_neg (by omega), if_neg (by omega), if_neg (by omega), if_pos (by omega)]
      rw [he]
      exact @call_ok' E i x ks r hfo ihN (fun e => by rw [if_pos e] at hw; exact ⟨hw.1, by rw [← hwl]; exact hw.2⟩) (fun e => by rw [if_neg e] at hw; exact hw)
  by_cases o13 : x.op = 13
  · rw [if_neg (by omega), if_neg (by omega), if_neg (by omega), if_neg (by omega), if_neg (by omega), if_pos (by omega)] at hw
    refine .inl ⟨61, ?_, ?_⟩
    · unfold tabF; rw [if_neg (by omega), if_neg (by omega), if_neg (by omega), if_neg (by omega), if_neg (by omega), if_neg (by omega), if_neg (by omega), if_pos (by omega)]
    · have he : emStep E.P x ks.heads (ems E.P ks) = fun s => forkM x (ems E.P ks) s := by
        funext s; unfold emStep; rw [if_neg (by omega), if_neg (by omega), if_neg (by omega), if_neg (by omega), if_neg (by omega), if_neg (by omega), if_neg (by omega), if_pos (by omega)]
      rw [he]
      exact @fork_ok E i x ks r hfo ihN hw.1 hw.2.1 (fun e => hw.2.2 (by rw [hwl]; exact e))
  by_cases o16 : x.op = 16
  · rw [if_neg (by omega), if_neg (by omega), if_neg (by omega), if_neg (by omega), if_neg (by omega), if_pos (by omega)] at hw
    refine .inl ⟨61, ?_, ?_⟩
    · unfold tabF; rw [if_neg (by omega), if_neg (by omega), if_neg (by omega), if_neg (by omega), if_neg (by omega), if_neg (by omega), if_neg (by omega), if_pos (by omega)]
    · have he : emStep E.P x ks.heads (ems E.P ks) = fun s => forkM x (ems E.P ks) s := by
        funext s; unfold emStep; rw [if_neg (by omega), if_neg (by omega), if_neg (by omega), if_neg (by omega), if_neg (by omega), if_neg (by omega), if_neg (by omega), if_pos (by omega)]
      rw [he]
      exact @fork_ok E i x ks r hfo ihN hw.1 hw.2.1 (fun e => hw.2.2 (by rw [hwl]; exact e))
  by_cases o15 : x.op = 15
  · rw [if_neg (by omega), if_neg (by omega), if_neg (by omega), if_neg (by omega), if_neg (by omega), if_neg (by omega), if_pos (by omega)] at hw
    refine .inl ⟨63, ?_, ?_⟩
    · unfold tabF; rw [if_neg (by omega), if_neg (by omega), if_neg (by omega), if_neg (by omega), if_neg (by omega), if_neg (by omega), if_neg (by omega), if_neg (by omega), if_neg (by omega), if_pos (by omega)]
    · have he : emStep E.P x ks.heads (ems E.P ks) = fun s => eachM E.P x (ems E.P ks) s := by
        funext s; unfold emStep; rw [if_neg (by omega), if_neg (by omega), if_neg (by omega), if_neg (by omega), if_neg (by omega), if_neg (by omega), if_neg (by omega), if_neg (by omega), if_neg (by omega), if_pos (by omega)]
      rw [he]
      exact @each_ok E i x ks r hfo ihN hw.1 hw.2
  rw [if_neg (by omega), if_neg (by omega), if_neg (by omega), if_neg (by omega), if_neg (by omega), if_neg (by omega), if_neg (by omega)] at hw
  obtain ⟨hc, hw⟩ := hw
  obtain ⟨c, hc⟩ := Option.isSome_iff_exists.1 hc
  refine .inr ⟨c, ?_, hc, ihN, hw, ?_⟩
  · unfold tabF
    rw [if_neg (by omega), if_neg (by omega), if_neg (by omega), if_neg (by omega), if_neg (by omega), if_neg (by omega), if_neg (by omega), if_neg (by omega), if_neg (by omega), if_neg (by omega), if_neg (by omega), if_neg (by omega), if_neg (by omega)]
  · funext s
    unfold emStep
    rw [if_neg (by omega), if_neg (by omega), if_neg (by omega), if_neg (by omega), if_neg (by omega), if_neg (by omega), if_neg (by omega), if_neg (by omega), if_neg (by omega), if_neg (by omega), if_neg (by omega), if_neg (by omega), if_neg (by omega), hc]

theorem node_all {E : MEnv} : ∀ (f : Fo) (i : Nat), FoAt E.t i f → ∀ (j p : Nat) y kk, (f.at_ i)[j]? = some (p, y, kk) → wfStep y kk.heads (wfs kk) → NodeOk E p y kk
  | .nil, _, _, _, _, _, _, h => by simp [Fo.at_] at h
  | .cons x ks r, i, h, 0, p, y, kk, he => by
    simp [Fo.at_] at he
    obtain ⟨rfl, rfl, rfl⟩ := he
    intro hw
    exact @node_of E _ _ _ _ h (fun j p y kk h' => node_all ks _ h.2.2.1 j p y kk h') hw
  | .cons x ks r, i, h, j + 1, p, y, kk, he => node_all r _ h.2.2.2 j p y kk (by simpa [Fo.at_] using he)
end
end Go.Proofs.Tab
