/- Package check: the walk of stmt. No condition. -/
import Derived.Test.YtmjalmocaiokhaaGreatCheckL
set_option linter.unusedVariables false
set_option linter.unusedSimpArgs false
set_option maxRecDepth 100000
namespace Go.Proofs.Tab
open Go Go.Fw

theorem HB.ints {w : World} {g T : Nat} {l : List Int} (h : HB w g T (l.map fun n => .int .i64 n)) : IntsAt w (some ⟨g, 0, none⟩) l :=
  HB.rows (rows := l.map fun n => [.int .i64 n]) (by rw [flat_one]; exact h) (by simp)

theorem IntsAt.tail {w : World} {A : Option Addr} {x : Int} {xs : List Int} (h : IntsAt w A (x :: xs)) : IntsAt w (A.map (·.add (1 * 1))) xs := by
  refine ⟨fun r hr => h.1 r (by simp only [List.map_cons]; exact List.mem_cons_of_mem _ hr), fun hne => ?_⟩
  obtain ⟨a, rfl, hb, hc⟩ := h.2 (by simp)
  refine ⟨a.add (1 * 1), rfl, by simpa [Addr.add] using hb, fun i r hi j u hj => ?_⟩
  have := hc (i + 1) r (by simpa using hi) j u hj
  rw [add_add]
  rw [show 1 * 1 + (i * 1 + j) = (i + 1) * 1 + j by omega]
  exact this
theorem IntsAt.head {w : World} {A : Option Addr} {x : Int} {xs : List Int} (h : IntsAt w A (x :: xs)) : IntsAt w A [x] := by
  refine ⟨fun r hr => h.1 r (by simp at hr; subst hr; simp), fun hne => ?_⟩
  obtain ⟨a, rfl, hb, hc⟩ := h.2 (by simp)
  refine ⟨a, rfl, hb, fun i r hi j u hj => hc i r ?_ j u hj⟩
  cases i with
  | zero => simpa using hi
  | succ i => simp at hi
theorem zero_bool (w : World) : (zeroValue 4).run Tryz.prog w = .ok (.bool false) w := by
  obtain ⟨j, h1, _, _, z, h2, h3⟩ := (cx_ok 0 []).info (t := 4) (by decide)
  have h4 : (Tryz.prog.info? 4).bind (·.zero) = some (.bool false) := by kernel_rfl
  rw [h1, Option.bind_some, h2] at h4
  injection h4 with h4
  subst h4
  simp [zeroValue, typeInfo, h1, h2, Result.andThen]

theorem EvTRd.lookBool {S : World → Prop} {r t kt : Nat} {f : Int → Option Bool} (ht : ((cx 0 []).ty t).cls = .map kt 4) (hk : ((cx 0 []).ty kt).cls = .int .i64) (h : ∀ w, S w → HM w r (fun n => Value.int .i64 n) seenR f) (k : Int) {Q : Value → Prop}
    (k1 : Q (.bool (f k == some true))) : EvTRd Tryz.prog S (Instr.lookup t (.map (some r)) (.int .i64 k) false) Q := by
  refine ⟨_, fun w hw => ?_, k1⟩
  obtain ⟨es, c, h1, h2, h3, _, _, h4⟩ := (h w hw).find (Ky.int .i64) k
  have hku := (KeyCls.int hk).und (cx_ok 0 [])
  rcases h4 with ⟨g1, g2, _⟩ | ⟨j, e, b, g1, g2, g3, g4, g5⟩
  · simp [Instr.lookup, run_underlying (COk.map (cx_ok 0 []) ht), MapKept.run_getObj_map h1, MapKept.run_checkKey hku ((Ky.int .i64).isKey k), MapKept.run_findKey hku g1, zero_bool, Result.andThen, g2]
  · have : e.val = .bool b := g5
    simp [Instr.lookup, run_underlying (COk.map (cx_ok 0 []) ht), MapKept.run_getObj_map h1, MapKept.run_checkKey hku ((Ky.int .i64).isKey k), MapKept.run_findKey hku g1, Result.andThen, g4, this]

set_option maxHeartbeats 8000000 in
theorem stmt_step {t : List Nd} {i : Nat} {x : Nd} {ks r : Fo} (hfo : FoAt t i (.cons x ks r)) (ht : t.length ≤ 2000) (hsm : ∀ p (hp : p < t.length), t[p].text.size ≤ 140737488355328)
    (ihE : ∀ (j p : Nat) y kk, (ks.at_ (i + 1))[j]? = some (p, y, kk) → ExprOk t p y kk) (ihS : ∀ (j p : Nat) y kk, (ks.at_ (i + 1))[j]? = some (p, y, kk) → Stm t p y kk) (ihB : ∀ (j p : Nat) y kk, (ks.at_ (i + 1))[j]? = some (p, y, kk) → Blk t p y kk) : Stm t i x ks := by
  intro B kb mr At ct vs s w0 h hs hl hbad
  generalize hR : stepS x ks.heads (fun q => exprs q.1 q.2 ks) (sem ks) (s.slots, s.seen) = R
  have hlt := hfo.lt
  have hget := hfo.get
  have hkl : (kidsL t i).length = ks.len := by rw [kidsL_fo hfo, List.length_map, Fo.pos_length]
  refine fn_go (cx_ok 292 [2, 5]) wideOrders Tryz.func51 rfl rfl Tryz.call51 (by simp [cx]) ?_; conv => whnf
  refine EvNew.blk fun r2 w1 hr2 hz2 hF1 hB2 => ?_
  conv => whnf
  have h1 := h.fr0 hF1
  refine EvLd.blk0 hB2 rfl ?_
  conv => whnf
  refine EvLd.blk h1.blk rfl ?_
  conv => whnf
  refine EvIdx.nd h1.tree hlt rfl fun a ha => ?_
  conv => whnf
  refine EvLdN.nd h1.tree ha hlt rfl ?_
  rw [hget]
  conv => whnf
  have hF := hF1
  refine EvNew.blk fun r4 w hr4 hz4 hFx hB4 => ?_
  replace hF := hF.trans hFx
  have hE := hFx
  conv => whnf
  intro w hFx hBx; replace hF := (hF).trans' hFx (by simp; omega); conv => whnf
  have hr4w : r4 < w.heap.size := by have := hFx.size; omega
  replace hE := hE.trans' hFx (by simp; omega)
  have h2 := h1.fr0 hE
  have hB2' := hB2.fr0 hE
  refine EvLd.blk0 hB2' rfl ?_
  conv => whnf
  refine EvLd.blk h2.blk rfl ?_
  conv => whnf
  refine EvCall.ret0 (kids_okc At ct t i w h2.tree (by omega) (by omega) (by omega)) fun v w3 hF3 hq => ?_
  obtain ⟨A, c, rfl, hA, hA2, hcap⟩ := hq
  replace hF := hF.trans hF3
  have hs0 := hF.size
  have h3 := h2.fr0 hF3
  have hB3 := hB2'.fr0 hF3
  conv => whnf
  refine EvNew.blk fun r5 w5 hr5 hz5 hF5 hB5 => ?_
  replace hF := hF.trans hF5
  have h5 := h3.fr0 hF5
  have hB25 := hB3.fr0 hF5
  have hA5 := hA.fr0 hF5
  conv => whnf
  have hs3 := hF3.size
  refine EvSt.blk0 hB5 rfl rfl (by simp [rsOf]; omega) fun w6 hF6 hB6 => ?_
  have hlt0 := h.blk.lt
  have hltm := h.map.lt
  have hr25 : r2 < w.heap.size := by have := hE.size; omega
  have hF06 : Fr [] w0 w6 := hF.trans' hF6 (by simp; omega)
  have hG6 : Fr [r5] w5 w6 := hF6
  have h6 : LK B kb mr At ct t vs s w6 := h.fr0 hF06
  have hB26 : HB w6 r2 _ [kp kb] := hB25.fr hF6 (by simp; omega)
  have hF36 : Fr [] w3 w6 := hF5.trans' hF6 (by simp; omega)
  have hA6 : IntsAt w6 A (kidsL t i) := hA.fr0 hF36
  have hA3 : ∀ a, A = some a → a.block ∉ kb :: mr :: vs.ownBlock.toList := fun a ha => by
    have e1 := hA2 a ha
    have e2 := h2.blk.lt
    have e3 := h2.map.lt
    simp only [List.mem_cons, not_or]
    refine ⟨by omega, by omega, fun hm => ?_⟩
    have := h2.own.lt (toList_some.1 hm); omega
  have hr4S : ∀ x ∈ [r4], x ∉ kb :: mr :: vs.ownBlock.toList := by
    intro x hx hm
    obtain rfl := List.mem_singleton.1 hx
    simp only [List.mem_cons] at hm
    rcases hm with e | e | e
    · omega
    · omega
    · have := h.own.lt (toList_some.1 e); omega
  have hn2 : r2 ≠ kb := by omega
  have hn4 : r4 ≠ kb := by omega
  have hn5 : r5 ≠ kb := by omega

  clear hB2 hB2' hB3 hB25 hA5 hA hB5 h1 h2 h3 h5
  conv => whnf
  have hlb : s.slots.length ≤ 1000000 := by omega
  refine EvIf.eq (fun o11 => ?_) (fun o11 => ?_)
  · have hM : R = if [1].contains (ks.heads.length : Int) && likeB x 0 x.n 0 then (kh (exprs s.slots s.seen ks) 0).bind fun e => if e.2 ≤ 256 then declL x.n true [e.1] s.slots s.seen else none else none := by
      rw [← hR]; unfold stepS; rw [if_pos o11]
    conv => whnf
    refine EvNew.blk fun gl w7 hgl hz7 hF7 hB7 => ?_
    conv => whnf
    have hs7 := hF7.size
    have hl7 : IntsAt w7 (some ⟨gl, 0, none⟩) [1] := HB.ints hB7
    refine EvCall.ret (many_ok (h6.fr0 hF7) hl7 (by simp) (hB26.fr0 hF7) (hB6.fr0 hF7)) (by simpa [rsOf] using hn4) fun v w8 hF8 hq => ?_
    obtain ⟨rfl, h8⟩ := hq
    rw [hkl, ← Fo.heads_length] at h8 ⊢
    have hF68 := (Fr.nil (S := [kb]) hF7).trans hF8
    have hF08 : Fr [kb] w0 w8 := hF06.nil.trans hF68
    have hB28 := hB26.fr hF68 (by simpa using hn2)
    have hB58 := hB6.fr hF68 (by simpa using hn5)
    conv => whnf
    refine EvSplit.any (fun b1 => ?_) (fun b1 => ?_)
    rotate_left
    · have hb : (mustL ([1].contains (ks.heads.length : Int)) s).bad = true := by simpa using b1
      have hn : R = none := by
        rw [hM]
        cases hc : [1].contains (ks.heads.length : Int)
        · rfl
        · rw [hc, mustL_true, hbad] at hb; cases hb
      conv => whnf
      exact ⟨hF08.mono (by simp), vs, _, h8, .inl rfl, ⟨fun e => (by rw [hbad] at e; cases e), fun _ => (by rw [hn]; exact hb)⟩, hs, by rw [mustL_slots]; omega⟩
    obtain ⟨_, hc⟩ := mustL_ok (show (mustL ([1].contains (ks.heads.length : Int)) s).bad = false by simpa using b1)
    rw [hc, mustL_true] at h8
    conv => whnf
    refine EvLd.blk0 hB28 rfl ?_
    conv => whnf
    refine EvCall.ret (like_ok h8 hlt 0 x.n 0) (by simpa [rsOf] using hn4) fun v w9 hF9 hq => ?_
    rw [hget] at hq
    obtain ⟨rfl, h9⟩ := hq
    have hF09 := hF08.trans hF9
    have hF69 := hF68.trans hF9
    have hB29 := hB28.fr hF9 (by simpa using hn2)
    have hB59 := hB58.fr hF9 (by simpa using hn5)
    have hA9 : IntsAt w9 A (kidsL t i) := Rows.fr hA6 hF69 fun a ha => by have := hA3 a ha; simp only [List.mem_cons, not_or] at this; simpa using this.1
    conv => whnf
    refine EvIf.any (fun b2 => ?_) (fun b2 => ?_)
    rotate_left
    · have hb : (mustL (likeB x 0 x.n 0) s).bad = true := by simpa using b2
      have hn : R = none := by
        rw [hM]
        cases hc2 : likeB x 0 x.n 0
        · simp
        · rw [hc2, mustL_true, hbad] at hb; cases hb
      conv => whnf
      exact ⟨hF09.mono (by simp), vs, _, h9, .inl rfl, ⟨fun e => (by rw [hbad] at e; cases e), fun _ => (by rw [hn]; exact hb)⟩, hs, by rw [mustL_slots]; omega⟩
    obtain ⟨_, hlk⟩ := mustL_ok (show (mustL (likeB x 0 x.n 0) s).bad = false by simpa using b2)
    rw [hlk, mustL_true] at h9
    have hk1 : 0 < ks.len := by
      rw [← Fo.heads_length]
      have : (ks.heads.length : Int) = 1 := by simpa using hc
      omega
    obtain ⟨p0, y0, kk0, r0', f1, f2, f3, f4, f5, f6⟩ := fo_tree s.slots s.seen (j := 0) hfo.2.2.1 hk1
    have hkd0 : (kidsL t i)[0]? = some (p0 : Int) := by rw [kidsL_fo hfo, List.getElem?_map, f2]; rfl
    have hx0 : kh (exprs s.slots s.seen ks) 0 = stepE s.slots s.seen y0 kk0.heads (exprs s.slots s.seen kk0) := by unfold kh; rw [f4]; rfl
    have hp0 := f5.lt
    have he0 : ExprOk t p0 y0 kk0 := ihE 0 p0 y0 kk0 f1
    conv => whnf
    refine EvDraw.go (fun w' => Fr [] w9 w') (some 4) (.take 0 true (.take 1 true (.take 2 true (.take 3 true (.exec 4 (.take 5 false (.take 6 false (.take 7 false (.take 8 false (.take 9 false .done)))))))))) (by kernel_rfl) ?_ ?_
    · exact Fr.drew _
    conv => whnf
    refine ⟨_, fun w' hw => (hB29.fr0 hw.1).cell rfl, ?_⟩
    conv => whnf
    refine ⟨_, fun w' hw => (hB59.fr0 hw.1).cell rfl, ?_⟩
    conv => whnf
    refine EvIdx.ints hA9 (by omega) (by omega) (by omega) rfl fun ab hab => ?_
    conv => whnf
    refine ⟨_, fun w' hw => IntsAt.cell (Rows.fr0 hA9 hw.1) hab hkd0, ?_⟩
    conv => whnf
    refine EvCall.ret (he0 (h9.fr0 (Fr.drew w9)) hs hlb) (by simpa [rsOf] using hn4) fun v w10 hF10 hq => ?_
    obtain ⟨k0, g0, rfl, g1, g2, h10, g3⟩ := hq
    have hF9a : Fr [kb] w9 w10 := ((Fr.drew w9).nil).trans hF10
    have hB2a := hB29.fr hF9a (by simpa using hn2)
    conv => whnf
    refine EvLd.blk0 hB2a rfl ?_
    conv => whnf
    refine EvCall.ret (must_ok h10 (decide (g0 ≤ 256))) (by simpa [rsOf] using hn4) fun v w11 hF11 hq => ?_
    obtain ⟨rfl, h11⟩ := hq
    rw [mustL_mustL] at h11
    have hB2b := hB2a.fr hF11 (by simpa using hn2)
    conv => whnf
    refine EvLd.blk0 hB2b rfl ?_
    conv => whnf
    refine EvNew.blk fun g12 w12 hg12 hz12 hF12 hB12 => ?_
    have hFc : Fr [kb] w0 w12 := (((hF09.trans hF9a).trans hF11)).trans hF12.nil
    have hFc' : Fr [kb] w0 w11 := (hF09.trans hF9a).trans hF11
    have hsc := hFc'.size
    conv => whnf
    refine EvCall.ret (declare_ok (l := [k0]) (h11.fr0 hF12) hs hlb (by simp) (by simp) hB12 (fun e => by have := h.own.lt e; omega)) (by simpa [rsOf] using hr4S) fun v w13 hF13 hq => ?_
    obtain ⟨vs', s', h13, kv13, res13, si13, b13⟩ := hq
    conv => whnf
    refine ⟨(hFc.mono (by simp)).trans hF13, vs', s', h13, KeptV.trans (.inl rfl) kv13 hFc.size, ⟨fun e => (by rw [hbad] at e; cases e), fun _ => ?_⟩, si13, ?_⟩
    · rw [hM, hc, hlk, hx0]
      simp only [mustL_slots, mustL_seen] at res13
      generalize stepE s.slots s.seen y0 kk0.heads (exprs s.slots s.seen kk0) = rr at g3 res13 h11 ⊢
      cases hrr : rr with
      | none => rw [hrr] at res13; exact res13.1 (by simp [mustL])
      | some q =>
        obtain rfl := g3 hbad q hrr
        rw [hrr] at res13
        by_cases hg : g0 ≤ 256
        · rw [show ((some (k0, g0)).isSome && decide (g0 ≤ 256)) = true by simp [hg], mustL_true] at res13
          have := res13.2 hbad
          simpa [hg] using this
        · rw [show ((some (k0, g0)).isSome && decide (g0 ≤ 256)) = false by simp [hg]] at res13
          have := res13.1 (by simp [mustL])
          simpa [hg] using this
    · rw [mustL_slots] at b13
      have : [k0].length = 1 := rfl
      omega
  conv => whnf
  refine EvIf.eq (fun o12 => ?_) (fun o12 => ?_)
  · have hM : R = if [1].contains (ks.heads.length : Int) && (decide (x.n ≥ 0) && decide (x.n < 1048576) && s.seen x.n == some true) && likeB x 0 x.n 0 && valueL (kh (exprs s.slots s.seen ks) 0) (s.slots.getD x.n.toNat 0) then some (s.slots, s.seen) else none := by
      rw [← hR]; unfold stepS; rw [if_neg o11, if_pos o12]
    conv => whnf
    refine EvDraw.go (fun w' => Fr [] w6 w') none (.take 0 true (.take 1 true (.take 2 true (.take 3 true (.take 4 true (.take 5 true (.take 6 true (.take 7 true (.take 8 true (.take 9 true (.take 10 true (.take 11 true (.take 12 true (.take 13 true (.take 14 true (.take 15 true (.take 16 true (.take 17 true .done)))))))))))))))))) (by kernel_rfl) ?_ ?_
    · exact Fr.drew _
    conv => whnf
    refine EvSplit.ge (fun e1 => ?_) (fun e1 => ?_)
    rotate_left
    · have e0 : (decide (x.n ≥ 0) && decide (x.n < 1048576) && s.seen x.n == some true) = false := by simp [Int.not_le.2 e1]
      replace hF06 := hF06.trans (Fr.drew w6)
      replace h6 := h6.fr0 (Fr.drew w6)
      replace hB26 := hB26.fr0 (Fr.drew w6)
      replace hB6 := hB6.fr0 (Fr.drew w6)
      replace hA6 := Rows.fr0 hA6 (Fr.drew w6)
      conv => whnf
      refine EvNew.blk fun gl w7 hgl hz7 hF7 hB7 => ?_
      conv => whnf
      have hs7 := hF7.size
      have hl7 : IntsAt w7 (some ⟨gl, 0, none⟩) [1] := HB.ints hB7
      refine EvCall.ret (many_ok (h6.fr0 hF7) hl7 (by simp) (hB26.fr0 hF7) (hB6.fr0 hF7)) (by simpa [rsOf] using hn4) fun v w8 hF8 hq => ?_
      obtain ⟨rfl, h8⟩ := hq
      rw [hkl, ← Fo.heads_length] at h8 ⊢
      have hF68 := (Fr.nil (S := [kb]) hF7).trans hF8
      have hF08 : Fr [kb] w0 w8 := hF06.nil.trans hF68
      have hB28 := hB26.fr hF68 (by simpa using hn2)
      have hB58 := hB6.fr hF68 (by simpa using hn5)
      conv => whnf
      refine EvSplit.any (fun b1 => ?_) (fun b1 => ?_)
      rotate_left
      · have hb : (mustL ([1].contains (ks.heads.length : Int)) s).bad = true := by simpa using b1
        have hn : R = none := by
          rw [hM]
          cases hc : [1].contains (ks.heads.length : Int)
          · rfl
          · rw [hc, mustL_true, hbad] at hb; cases hb
        conv => whnf
        exact ⟨hF08.mono (by simp), vs, _, h8, .inl rfl, ⟨fun e => (by rw [hbad] at e; cases e), fun _ => (by rw [hn]; exact hb)⟩, hs, by rw [mustL_slots]; omega⟩
      obtain ⟨_, hc⟩ := mustL_ok (show (mustL ([1].contains (ks.heads.length : Int)) s).bad = false by simpa using b1)
      rw [hc, mustL_true] at h8
      conv => whnf
      refine EvLd.blk0 hB28 rfl ?_
      conv => whnf
      refine EvCall.ret (must_ok h8 (false)) (by simpa [rsOf] using hn4) fun v w8b hF8b hq => ?_
      obtain ⟨rfl, h8b⟩ := hq
      replace hF08 := hF08.trans hF8b
      replace hF68 := hF68.trans hF8b
      replace hB28 := hB28.fr hF8b (by simpa using hn2)
      replace hB58 := hB58.fr hF8b (by simpa using hn5)
      conv => whnf
      refine EvSplit.any (fun b3 => ?_) (fun b3 => ?_)
      rotate_left
      · have hb : (mustL (false) s).bad = true := by simpa using b3
        have hn : R = none := by
          rw [hM, hc, e0]
          cases hc2 : (false)
          · rfl
          · rw [hc2, mustL_true, hbad] at hb; cases hb
        conv => whnf
        exact ⟨hF08.mono (by simp), vs, _, h8b, .inl rfl, ⟨fun e => (by rw [hbad] at e; cases e), fun _ => (by rw [hn]; exact hb)⟩, hs, by rw [mustL_slots]; omega⟩
      obtain ⟨_, hc3⟩ := mustL_ok (show (mustL (false) s).bad = false by simpa using b3)
      rw [hc3, mustL_true] at h8b
      clear h8
      have h8 := h8b
      cases hc3
    conv => whnf
    refine EvSplit.lt (fun e2 => ?_) (fun e2 => ?_)
    rotate_left
    · have e0 : (decide (x.n ≥ 0) && decide (x.n < 1048576) && s.seen x.n == some true) = false := by simp [Int.not_lt.2 e2]
      replace hF06 := hF06.trans (Fr.drew w6)
      replace h6 := h6.fr0 (Fr.drew w6)
      replace hB26 := hB26.fr0 (Fr.drew w6)
      replace hB6 := hB6.fr0 (Fr.drew w6)
      replace hA6 := Rows.fr0 hA6 (Fr.drew w6)
      conv => whnf
      refine EvNew.blk fun gl w7 hgl hz7 hF7 hB7 => ?_
      conv => whnf
      have hs7 := hF7.size
      have hl7 : IntsAt w7 (some ⟨gl, 0, none⟩) [1] := HB.ints hB7
      refine EvCall.ret (many_ok (h6.fr0 hF7) hl7 (by simp) (hB26.fr0 hF7) (hB6.fr0 hF7)) (by simpa [rsOf] using hn4) fun v w8 hF8 hq => ?_
      obtain ⟨rfl, h8⟩ := hq
      rw [hkl, ← Fo.heads_length] at h8 ⊢
      have hF68 := (Fr.nil (S := [kb]) hF7).trans hF8
      have hF08 : Fr [kb] w0 w8 := hF06.nil.trans hF68
      have hB28 := hB26.fr hF68 (by simpa using hn2)
      have hB58 := hB6.fr hF68 (by simpa using hn5)
      conv => whnf
      refine EvSplit.any (fun b1 => ?_) (fun b1 => ?_)
      rotate_left
      · have hb : (mustL ([1].contains (ks.heads.length : Int)) s).bad = true := by simpa using b1
        have hn : R = none := by
          rw [hM]
          cases hc : [1].contains (ks.heads.length : Int)
          · rfl
          · rw [hc, mustL_true, hbad] at hb; cases hb
        conv => whnf
        exact ⟨hF08.mono (by simp), vs, _, h8, .inl rfl, ⟨fun e => (by rw [hbad] at e; cases e), fun _ => (by rw [hn]; exact hb)⟩, hs, by rw [mustL_slots]; omega⟩
      obtain ⟨_, hc⟩ := mustL_ok (show (mustL ([1].contains (ks.heads.length : Int)) s).bad = false by simpa using b1)
      rw [hc, mustL_true] at h8
      conv => whnf
      refine EvLd.blk0 hB28 rfl ?_
      conv => whnf
      refine EvCall.ret (must_ok h8 (false)) (by simpa [rsOf] using hn4) fun v w8b hF8b hq => ?_
      obtain ⟨rfl, h8b⟩ := hq
      replace hF08 := hF08.trans hF8b
      replace hF68 := hF68.trans hF8b
      replace hB28 := hB28.fr hF8b (by simpa using hn2)
      replace hB58 := hB58.fr hF8b (by simpa using hn5)
      conv => whnf
      refine EvSplit.any (fun b3 => ?_) (fun b3 => ?_)
      rotate_left
      · have hb : (mustL (false) s).bad = true := by simpa using b3
        have hn : R = none := by
          rw [hM, hc, e0]
          cases hc2 : (false)
          · rfl
          · rw [hc2, mustL_true, hbad] at hb; cases hb
        conv => whnf
        exact ⟨hF08.mono (by simp), vs, _, h8b, .inl rfl, ⟨fun e => (by rw [hbad] at e; cases e), fun _ => (by rw [hn]; exact hb)⟩, hs, by rw [mustL_slots]; omega⟩
      obtain ⟨_, hc3⟩ := mustL_ok (show (mustL (false) s).bad = false by simpa using b3)
      rw [hc3, mustL_true] at h8b
      clear h8
      have h8 := h8b
      cases hc3
    have e0 : (decide (x.n ≥ 0) && decide (x.n < 1048576) && s.seen x.n == some true) = (s.seen x.n == some true) := by simp [e1, e2]
    conv => whnf
    refine ⟨_, fun w' hw => (hB26.fr0 hw.1).cell rfl, ?_⟩
    conv => whnf
    refine ⟨_, fun w' hw => (h6.blk.fr0 hw.1).add rfl, ?_⟩
    conv => whnf
    refine EvTRd.lookBool rfl rfl (fun w' hw => h6.map.fr0 hw.1) x.n ?_
    replace hF06 := hF06.trans (Fr.drew w6)
    replace h6 := h6.fr0 (Fr.drew w6)
    replace hB26 := hB26.fr0 (Fr.drew w6)
    replace hB6 := hB6.fr0 (Fr.drew w6)
    replace hA6 := Rows.fr0 hA6 (Fr.drew w6)
    conv => whnf
    refine EvNew.blk fun gl w7 hgl hz7 hF7 hB7 => ?_
    conv => whnf
    have hs7 := hF7.size
    have hl7 : IntsAt w7 (some ⟨gl, 0, none⟩) [1] := HB.ints hB7
    refine EvCall.ret (many_ok (h6.fr0 hF7) hl7 (by simp) (hB26.fr0 hF7) (hB6.fr0 hF7)) (by simpa [rsOf] using hn4) fun v w8 hF8 hq => ?_
    obtain ⟨rfl, h8⟩ := hq
    rw [hkl, ← Fo.heads_length] at h8 ⊢
    have hF68 := (Fr.nil (S := [kb]) hF7).trans hF8
    have hF08 : Fr [kb] w0 w8 := hF06.nil.trans hF68
    have hB28 := hB26.fr hF68 (by simpa using hn2)
    have hB58 := hB6.fr hF68 (by simpa using hn5)
    conv => whnf
    refine EvSplit.any (fun b1 => ?_) (fun b1 => ?_)
    rotate_left
    · have hb : (mustL ([1].contains (ks.heads.length : Int)) s).bad = true := by simpa using b1
      have hn : R = none := by
        rw [hM]
        cases hc : [1].contains (ks.heads.length : Int)
        · rfl
        · rw [hc, mustL_true, hbad] at hb; cases hb
      conv => whnf
      exact ⟨hF08.mono (by simp), vs, _, h8, .inl rfl, ⟨fun e => (by rw [hbad] at e; cases e), fun _ => (by rw [hn]; exact hb)⟩, hs, by rw [mustL_slots]; omega⟩
    obtain ⟨_, hc⟩ := mustL_ok (show (mustL ([1].contains (ks.heads.length : Int)) s).bad = false by simpa using b1)
    rw [hc, mustL_true] at h8
    conv => whnf
    refine EvLd.blk0 hB28 rfl ?_
    conv => whnf
    refine EvCall.ret (must_ok h8 (s.seen x.n == some true)) (by simpa [rsOf] using hn4) fun v w8b hF8b hq => ?_
    obtain ⟨rfl, h8b⟩ := hq
    replace hF08 := hF08.trans hF8b
    replace hF68 := hF68.trans hF8b
    replace hB28 := hB28.fr hF8b (by simpa using hn2)
    replace hB58 := hB58.fr hF8b (by simpa using hn5)
    conv => whnf
    refine EvSplit.any (fun b3 => ?_) (fun b3 => ?_)
    rotate_left
    · have hb : (mustL (s.seen x.n == some true) s).bad = true := by simpa using b3
      have hn : R = none := by
        rw [hM, hc, e0]
        cases hc2 : (s.seen x.n == some true)
        · rfl
        · rw [hc2, mustL_true, hbad] at hb; cases hb
      conv => whnf
      exact ⟨hF08.mono (by simp), vs, _, h8b, .inl rfl, ⟨fun e => (by rw [hbad] at e; cases e), fun _ => (by rw [hn]; exact hb)⟩, hs, by rw [mustL_slots]; omega⟩
    obtain ⟨_, hc3⟩ := mustL_ok (show (mustL (s.seen x.n == some true) s).bad = false by simpa using b3)
    rw [hc3, mustL_true] at h8b
    clear h8
    have h8 := h8b
    conv => whnf
    refine EvLd.blk0 hB28 rfl ?_
    conv => whnf
    refine EvCall.ret (like_ok h8 hlt 0 x.n 0) (by simpa [rsOf] using hn4) fun v w9 hF9 hq => ?_
    rw [hget] at hq
    obtain ⟨rfl, h9⟩ := hq
    have hF09 := hF08.trans hF9
    have hF69 := hF68.trans hF9
    have hB29 := hB28.fr hF9 (by simpa using hn2)
    have hB59 := hB58.fr hF9 (by simpa using hn5)
    have hA9 : IntsAt w9 A (kidsL t i) := Rows.fr hA6 hF69 fun a ha => by have := hA3 a ha; simp only [List.mem_cons, not_or] at this; simpa using this.1
    conv => whnf
    refine EvIf.any (fun b2 => ?_) (fun b2 => ?_)
    rotate_left
    · have hb : (mustL (likeB x 0 x.n 0) s).bad = true := by simpa using b2
      have hn : R = none := by
        rw [hM]
        cases hc2 : likeB x 0 x.n 0
        · simp
        · rw [hc2, mustL_true, hbad] at hb; cases hb
      conv => whnf
      exact ⟨hF09.mono (by simp), vs, _, h9, .inl rfl, ⟨fun e => (by rw [hbad] at e; cases e), fun _ => (by rw [hn]; exact hb)⟩, hs, by rw [mustL_slots]; omega⟩
    obtain ⟨_, hlk⟩ := mustL_ok (show (mustL (likeB x 0 x.n 0) s).bad = false by simpa using b2)
    rw [hlk, mustL_true] at h9
    have hse : s.seen x.n = some true := by simpa using hc3
    have hsin := hs x.n true hse
    obtain ⟨Av, cv, rfl, _, hAv, _⟩ := h9.own.form
    obtain ⟨ga, rfl⟩ := hAv (by omega)
    obtain ⟨sl, hsl⟩ : ∃ sl, s.slots[x.n.toNat]? = some sl := ⟨_, List.getElem?_eq_getElem (by omega)⟩
    have hgd : s.slots.getD x.n.toNat 0 = sl := by rw [List.getD_eq_getElem?_getD, hsl]; rfl
    have hk1 : 0 < ks.len := by
      rw [← Fo.heads_length]
      have : (ks.heads.length : Int) = 1 := by simpa using hc
      omega
    obtain ⟨p0, y0, kk0, r0', f1, f2, f3, f4, f5, f6⟩ := fo_tree s.slots s.seen (j := 0) hfo.2.2.1 hk1
    have hkd0 : (kidsL t i)[0]? = some (p0 : Int) := by rw [kidsL_fo hfo, List.getElem?_map, f2]; rfl
    have hx0 : kh (exprs s.slots s.seen ks) 0 = stepE s.slots s.seen y0 kk0.heads (exprs s.slots s.seen kk0) := by unfold kh; rw [f4]; rfl
    have hp0 := f5.lt
    have he0 : ExprOk t p0 y0 kk0 := ihE 0 p0 y0 kk0 f1
    conv => whnf
    refine EvDraw.go (fun w' => Fr [] w9 w') (some 12) (.take 0 true (.take 1 true (.take 2 true (.take 3 true (.take 4 true (.take 5 true (.take 6 true (.take 7 true (.take 8 true (.take 9 true (.take 10 true (.take 11 true (.exec 12 .done))))))))))))) (by kernel_rfl) ?_ ?_
    · exact Fr.drew _
    conv => whnf
    refine ⟨_, fun w' hw => (hB29.fr0 hw.1).cell rfl, ?_⟩
    conv => whnf
    refine ⟨_, fun w' hw => (hB59.fr0 hw.1).cell rfl, ?_⟩
    conv => whnf
    refine EvIdx.ints hA9 (by omega) (by omega) (by omega) rfl fun ab hab => ?_
    conv => whnf
    refine ⟨_, fun w' hw => IntsAt.cell (Rows.fr0 hA9 hw.1) hab hkd0, ?_⟩
    conv => whnf
    refine ⟨_, fun w' hw => (hB29.fr0 hw.1).cell rfl, ?_⟩
    conv => whnf
    refine ⟨_, fun w' hw => (h9.blk.fr0 hw.1).add rfl, ?_⟩
    conv => whnf
    refine EvIdx.one e1 (by omega) rfl ?_
    conv => whnf
    refine ⟨_, fun w' hw => (h9.own.fr0 hw.1).cell (map_get hsl), ?_⟩
    conv => whnf
    refine EvCall.ret (value_ok he0 (h9.fr0 (Fr.drew w9)) hs hlb sl) (by simpa [rsOf] using hn4) fun v w10 hF10 h10 => ?_
    conv => whnf
    refine ⟨((hF09.trans (Fr.drew w9).nil).trans hF10).mono (by simp), _, _, h10, .inl rfl, ⟨fun e => (by rw [hbad] at e; cases e), fun _ => ?_⟩, hs, by rw [mustL_slots]; omega⟩
    rw [hM, hc, e0, hc3, hlk, hgd, hx0]
    cases valueL (stepE s.slots s.seen y0 kk0.heads (exprs s.slots s.seen kk0)) sl
    · show (mustL false s).bad = true
      simp [mustL]
    · show mustL true s = ⟨s.slots, s.seen, false⟩
      rw [mustL_true, ← hbad]
  conv => whnf
  refine EvIf.eq (fun o13 => ?_) (fun o13 => ?_)
  · have hM : R = if [2, 3].contains (ks.heads.length : Int) && likeB x 0 0 0 && valueL (kh (exprs s.slots s.seen ks) 0) 2 then blocksL (ks.heads.drop 1) ((sem ks).drop 1) 0 (s.slots, s.seen) else none := by
      rw [← hR]; unfold stepS; rw [if_neg o11, if_neg o12, if_pos o13]
    conv => whnf
    refine EvNew.blk fun gl w7 hgl hz7 hF7 hB7 => ?_
    conv => whnf
    have hs7 := hF7.size
    have hl7 : IntsAt w7 (some ⟨gl, 0, none⟩) [2, 3] := HB.ints hB7
    refine EvCall.ret (many_ok (h6.fr0 hF7) hl7 (by simp) (hB26.fr0 hF7) (hB6.fr0 hF7)) (by simpa [rsOf] using hn4) fun v w8 hF8 hq => ?_
    obtain ⟨rfl, h8⟩ := hq
    rw [hkl, ← Fo.heads_length] at h8 ⊢
    have hF68 := (Fr.nil (S := [kb]) hF7).trans hF8
    have hF08 : Fr [kb] w0 w8 := hF06.nil.trans hF68
    have hB28 := hB26.fr hF68 (by simpa using hn2)
    have hB58 := hB6.fr hF68 (by simpa using hn5)
    conv => whnf
    refine EvSplit.any (fun b1 => ?_) (fun b1 => ?_)
    rotate_left
    · have hb : (mustL ([2, 3].contains (ks.heads.length : Int)) s).bad = true := by simpa using b1
      have hn : R = none := by
        rw [hM]
        cases hc : [2, 3].contains (ks.heads.length : Int)
        · rfl
        · rw [hc, mustL_true, hbad] at hb; cases hb
      conv => whnf
      exact ⟨hF08.mono (by simp), vs, _, h8, .inl rfl, ⟨fun e => (by rw [hbad] at e; cases e), fun _ => (by rw [hn]; exact hb)⟩, hs, by rw [mustL_slots]; omega⟩
    obtain ⟨_, hc⟩ := mustL_ok (show (mustL ([2, 3].contains (ks.heads.length : Int)) s).bad = false by simpa using b1)
    rw [hc, mustL_true] at h8
    conv => whnf
    refine EvLd.blk0 hB28 rfl ?_
    conv => whnf
    refine EvCall.ret (like_ok h8 hlt 0 0 0) (by simpa [rsOf] using hn4) fun v w9 hF9 hq => ?_
    rw [hget] at hq
    obtain ⟨rfl, h9⟩ := hq
    have hF09 := hF08.trans hF9
    have hF69 := hF68.trans hF9
    have hB29 := hB28.fr hF9 (by simpa using hn2)
    have hB59 := hB58.fr hF9 (by simpa using hn5)
    have hA9 : IntsAt w9 A (kidsL t i) := Rows.fr hA6 hF69 fun a ha => by have := hA3 a ha; simp only [List.mem_cons, not_or] at this; simpa using this.1
    conv => whnf
    refine EvIf.any (fun b2 => ?_) (fun b2 => ?_)
    rotate_left
    · have hb : (mustL (likeB x 0 0 0) s).bad = true := by simpa using b2
      have hn : R = none := by
        rw [hM]
        cases hc2 : likeB x 0 0 0
        · simp
        · rw [hc2, mustL_true, hbad] at hb; cases hb
      conv => whnf
      exact ⟨hF09.mono (by simp), vs, _, h9, .inl rfl, ⟨fun e => (by rw [hbad] at e; cases e), fun _ => (by rw [hn]; exact hb)⟩, hs, by rw [mustL_slots]; omega⟩
    obtain ⟨_, hlk⟩ := mustL_ok (show (mustL (likeB x 0 0 0) s).bad = false by simpa using b2)
    rw [hlk, mustL_true] at h9
    have hk1 : 0 < ks.len := by
      rw [← Fo.heads_length]
      have : (ks.heads.length : Int) = 2 ∨ (ks.heads.length : Int) = 3 := by simpa using hc
      omega
    obtain ⟨p0, y0, kk0, r0', f1, f2, f3, f4, f5, f6⟩ := fo_tree s.slots s.seen (j := 0) hfo.2.2.1 hk1
    have hkd0 : (kidsL t i)[0]? = some (p0 : Int) := by rw [kidsL_fo hfo, List.getElem?_map, f2]; rfl
    have hx0 : kh (exprs s.slots s.seen ks) 0 = stepE s.slots s.seen y0 kk0.heads (exprs s.slots s.seen kk0) := by unfold kh; rw [f4]; rfl
    have hp0 := f5.lt
    have he0 : ExprOk t p0 y0 kk0 := ihE 0 p0 y0 kk0 f1
    conv => whnf
    refine EvDraw.go (fun w' => Fr [] w9 w') (some 4) (.take 0 true (.take 1 true (.take 2 true (.take 3 true (.exec 4 .done))))) (by kernel_rfl) ?_ ?_
    · exact Fr.drew _
    conv => whnf
    refine ⟨_, fun w' hw => (hB29.fr0 hw.1).cell rfl, ?_⟩
    conv => whnf
    refine ⟨_, fun w' hw => (hB59.fr0 hw.1).cell rfl, ?_⟩
    conv => whnf
    refine EvIdx.ints hA9 (by omega) (by omega) (by omega) rfl fun ab hab => ?_
    conv => whnf
    refine ⟨_, fun w' hw => IntsAt.cell (Rows.fr0 hA9 hw.1) hab hkd0, ?_⟩
    conv => whnf
    refine EvCall.ret (value_ok he0 (h9.fr0 (Fr.drew w9)) hs hlb 2) (by simpa [rsOf] using hn4) fun v w10 hF10 h10 => ?_
    have hF9a := (Fr.nil (S := [kb]) (Fr.drew w9)).trans hF10
    have hF0a := hF09.trans hF9a
    have hF6a := hF69.trans hF9a
    have hB2a := hB29.fr hF9a (by simpa using hn2)
    have hB5a := hB59.fr hF9a (by simpa using hn5)
    have hAa : IntsAt w10 A (kidsL t i) := Rows.fr hA6 hF6a fun a ha => by have := hA3 a ha; simp only [List.mem_cons, not_or] at this; simpa using this.1
    conv => whnf
    refine EvDraw.go (fun w' => Fr [] w10 w') (some 3) (.take 0 true (.take 1 true (.take 2 true (.exec 3 .done)))) (by kernel_rfl) ?_ ?_
    · exact Fr.drew _
    conv => whnf
    refine ⟨_, fun w' hw => (hB2a.fr0 hw.1).cell rfl, ?_⟩
    conv => whnf
    refine ⟨_, fun w' hw => (hB5a.fr0 hw.1).cell rfl, ?_⟩
    conv => whnf
    refine ⟨⟨by omega, by omega, by omega, by omega, ?_⟩⟩
    conv => whnf
    have hl2 : 2 ≤ (kidsL t i).length := by
      rw [hkl, ← Fo.heads_length]
      have : (ks.heads.length : Int) = 2 ∨ (ks.heads.length : Int) = 3 := by simpa using hc
      omega
    obtain ⟨x1, k1, rr, rfl⟩ : ∃ x1 k1 rr, ks = .cons x1 k1 rr := by
      cases ks with
      | nil => simp [Fo.len] at hk1
      | cons a b c => exact ⟨a, b, c, rfl⟩
    have hfr : FoAt t (i + 1 + 1 + k1.size) rr := hfo.2.2.1.2.2.2
    have hpos : kidsL t i = ((i + 1 : Nat) : Int) :: (rr.pos (i + 1 + 1 + k1.size)).map (Int.ofNat ·) := by rw [kidsL_fo hfo]; rfl
    have hAt : IntsAt w10.drew (A.map (·.add (1 * 1))) ((rr.pos (i + 1 + 1 + k1.size)).map (Int.ofNat ·)) := by
      have := Rows.fr0 hAa (Fr.drew w10)
      rw [hpos] at this
      exact IntsAt.tail this
    have hcn : ¬ ((c : Int).toNat = Int.toNat 1) := by rw [Int.toNat_natCast]; show ¬ c = 1; omega
    have hle0 := FoAt.le hfo.2.2.1 (by omega)
    have hle1 := rr.len_le_size
    have hsz : (Fo.cons x1 k1 rr).size = 1 + k1.size + rr.size := rfl
    refine EvCall.ret (blocks_ok (f := rr) hfr ht (fun j p y kk h => ihS (j + 1) p y kk (by simpa [Fo.at_] using h)) (fun j p y kk h => ihB (j + 1) p y kk (by simpa [Fo.at_] using h)) (h10.fr0 (Fr.drew w10)) hs (by rw [mustL_slots]; omega) (by omega)
      (by rw [Int.toNat_natCast, hkl]; show 1 + rr.len - 1 = rr.len; omega) (by rw [if_neg hcn]; exact hAt) (fun a ha => ?_)) (by simpa [rsOf] using hr4S) fun v w11 hF11 hq => ?_
    · rw [if_neg hcn] at ha
      obtain ⟨b, hb1, hb2⟩ := Option.map_eq_some_iff.1 ha
      rw [← hb2, block_add]
      exact hA3 b hb1
    obtain ⟨vs', s', h11, kv11, res11, si11, b11⟩ := hq
    have hF0b := hF0a.trans (Fr.drew w10).nil
    conv => whnf
    refine ⟨(hF0b.mono (by simp)).trans hF11, vs', s', h11, KeptV.trans (.inl rfl) kv11 hF0b.size, ⟨fun e => (by rw [hbad] at e; cases e), fun _ => ?_⟩, si11, by omega⟩
    rw [hM, hc, hlk, hx0]
    rw [mustL_slots, mustL_seen] at res11
    cases hv : valueL (stepE s.slots s.seen y0 kk0.heads (exprs s.slots s.seen kk0)) 2
    · rw [hv] at res11
      exact res11.1 (by simp [mustL])
    · rw [hv, mustL_true] at res11
      exact res11.2 hbad
  conv => whnf
  refine EvIf.eq (fun o14 => ?_) (fun o14 => ?_)
  · have hM : R = if [1].contains (ks.heads.length : Int) && (decide (x.n ≥ 0) && decide (x.n ≤ 255)) && likeB x 0 x.n x.m then (declL x.m false [1] s.slots s.seen).bind fun q => (blocksL ks.heads (sem ks) 0 q).map (delL x.m) else none := by
      rw [← hR]; unfold stepS; rw [if_neg o11, if_neg o12, if_neg o13, if_pos o14]
    conv => whnf
    refine EvNew.blk fun gl w7 hgl hz7 hF7 hB7 => ?_
    conv => whnf
    have hs7 := hF7.size
    have hl7 : IntsAt w7 (some ⟨gl, 0, none⟩) [1] := HB.ints hB7
    refine EvCall.ret (many_ok (h6.fr0 hF7) hl7 (by simp) (hB26.fr0 hF7) (hB6.fr0 hF7)) (by simpa [rsOf] using hn4) fun v w8 hF8 hq => ?_
    obtain ⟨rfl, h8⟩ := hq
    rw [hkl, ← Fo.heads_length] at h8 ⊢
    have hF68 := (Fr.nil (S := [kb]) hF7).trans hF8
    have hF08 : Fr [kb] w0 w8 := hF06.nil.trans hF68
    have hB28 := hB26.fr hF68 (by simpa using hn2)
    have hB58 := hB6.fr hF68 (by simpa using hn5)
    conv => whnf
    refine EvSplit.any (fun b1 => ?_) (fun b1 => ?_)
    rotate_left
    · have hb : (mustL ([1].contains (ks.heads.length : Int)) s).bad = true := by simpa using b1
      have hn : R = none := by
        rw [hM]
        cases hc : [1].contains (ks.heads.length : Int)
        · rfl
        · rw [hc, mustL_true, hbad] at hb; cases hb
      conv => whnf
      exact ⟨hF08.mono (by simp), vs, _, h8, .inl rfl, ⟨fun e => (by rw [hbad] at e; cases e), fun _ => (by rw [hn]; exact hb)⟩, hs, by rw [mustL_slots]; omega⟩
    obtain ⟨_, hc⟩ := mustL_ok (show (mustL ([1].contains (ks.heads.length : Int)) s).bad = false by simpa using b1)
    rw [hc, mustL_true] at h8
    conv => whnf
    refine EvLd.blk0 hB28 rfl ?_
    conv => whnf
    refine EvSplit.ge (fun e1 => ?_) (fun e1 => ?_)
    rotate_left
    · have e0 : (decide (x.n ≥ 0) && decide (x.n ≤ 255)) = false := by simp [Int.not_le.2 e1]
      conv => whnf
      refine EvCall.ret (must_ok h8 (false)) (by simpa [rsOf] using hn4) fun v w8b hF8b hq => ?_
      obtain ⟨rfl, h8b⟩ := hq
      replace hF08 := hF08.trans hF8b
      replace hF68 := hF68.trans hF8b
      replace hB28 := hB28.fr hF8b (by simpa using hn2)
      replace hB58 := hB58.fr hF8b (by simpa using hn5)
      conv => whnf
      refine EvSplit.any (fun b3 => ?_) (fun b3 => ?_)
      rotate_left
      · have hb : (mustL (false) s).bad = true := by simpa using b3
        have hn : R = none := by
          rw [hM, hc, e0]
          cases hc2 : (false)
          · simp
          · rw [hc2, mustL_true, hbad] at hb; cases hb
        conv => whnf
        exact ⟨hF08.mono (by simp), vs, _, h8b, .inl rfl, ⟨fun e => (by rw [hbad] at e; cases e), fun _ => (by rw [hn]; exact hb)⟩, hs, by rw [mustL_slots]; omega⟩
      obtain ⟨_, hc3⟩ := mustL_ok (show (mustL (false) s).bad = false by simpa using b3)
      rw [hc3, mustL_true] at h8b
      clear h8
      have h8 := h8b
      cases hc3
    have e0 : (decide (x.n ≥ 0) && decide (x.n ≤ 255)) = decide (x.n ≤ 255) := by simp [e1]
    conv => whnf
    refine EvCall.ret (must_ok h8 (decide (x.n ≤ 255))) (by simpa [rsOf] using hn4) fun v w8b hF8b hq => ?_
    obtain ⟨rfl, h8b⟩ := hq
    replace hF08 := hF08.trans hF8b
    replace hF68 := hF68.trans hF8b
    replace hB28 := hB28.fr hF8b (by simpa using hn2)
    replace hB58 := hB58.fr hF8b (by simpa using hn5)
    conv => whnf
    refine EvSplit.any (fun b3 => ?_) (fun b3 => ?_)
    rotate_left
    · have hb : (mustL (decide (x.n ≤ 255)) s).bad = true := by simpa using b3
      have hn : R = none := by
        rw [hM, hc, e0]
        cases hc2 : (decide (x.n ≤ 255))
        · simp
        · rw [hc2, mustL_true, hbad] at hb; cases hb
      conv => whnf
      exact ⟨hF08.mono (by simp), vs, _, h8b, .inl rfl, ⟨fun e => (by rw [hbad] at e; cases e), fun _ => (by rw [hn]; exact hb)⟩, hs, by rw [mustL_slots]; omega⟩
    obtain ⟨_, hc3⟩ := mustL_ok (show (mustL (decide (x.n ≤ 255)) s).bad = false by simpa using b3)
    rw [hc3, mustL_true] at h8b
    clear h8
    have h8 := h8b
    conv => whnf
    refine EvLd.blk0 hB28 rfl ?_
    conv => whnf
    refine EvCall.ret (like_ok h8 hlt 0 x.n x.m) (by simpa [rsOf] using hn4) fun v w9 hF9 hq => ?_
    rw [hget] at hq
    obtain ⟨rfl, h9⟩ := hq
    have hF09 := hF08.trans hF9
    have hF69 := hF68.trans hF9
    have hB29 := hB28.fr hF9 (by simpa using hn2)
    have hB59 := hB58.fr hF9 (by simpa using hn5)
    have hA9 : IntsAt w9 A (kidsL t i) := Rows.fr hA6 hF69 fun a ha => by have := hA3 a ha; simp only [List.mem_cons, not_or] at this; simpa using this.1
    conv => whnf
    refine EvIf.any (fun b2 => ?_) (fun b2 => ?_)
    rotate_left
    · have hb : (mustL (likeB x 0 x.n x.m) s).bad = true := by simpa using b2
      have hn : R = none := by
        rw [hM]
        cases hc2 : likeB x 0 x.n x.m
        · simp
        · rw [hc2, mustL_true, hbad] at hb; cases hb
      conv => whnf
      exact ⟨hF09.mono (by simp), vs, _, h9, .inl rfl, ⟨fun e => (by rw [hbad] at e; cases e), fun _ => (by rw [hn]; exact hb)⟩, hs, by rw [mustL_slots]; omega⟩
    obtain ⟨_, hlk⟩ := mustL_ok (show (mustL (likeB x 0 x.n x.m) s).bad = false by simpa using b2)
    rw [hlk, mustL_true] at h9
    conv => whnf
    refine EvLd.blk0 hB29 rfl ?_
    conv => whnf
    refine EvNew.blk fun ga wa hga hza hFa hBa => ?_
    have hF0a := hF09.trans hFa.nil
    have hs09 := hF09.size
    have hr4a : r4 < w6.heap.size := by have := hF36.size; omega
    have hr5a : r5 < w6.heap.size := hB6.lt
    have hs69 := hF69.size
    have hk1 : ks.len = 1 := by
      rw [← Fo.heads_length]
      have : (ks.heads.length : Int) = 1 := by simpa using hc
      omega
    obtain ⟨Aa, hAa, hAlt⟩ := Rows.at_ hA6 (by rw [List.length_map, hkl]; omega)
    conv => whnf
    refine EvCall.ret (declare_ok (l := [1]) (h9.fr0 hFa) hs hlb (by simp) (by simp) hBa (fun e => by have := h.own.lt e; omega)) (by simpa [rsOf] using hr4S) fun v wb hFb hq => ?_
    obtain ⟨vs1, s1, hb1, kvb, resb, sib, lb⟩ := hq
    have hnS : ∀ y, w0.heap.size ≤ y → y < wa.heap.size → y ∉ kb :: mr :: vs.ownBlock.toList ∧ y ∉ kb :: mr :: vs1.ownBlock.toList := fun y hy1 hy2 => by
      have a1 : y ∉ vs.ownBlock.toList := fun hm => by have := h.own.lt (toList_some.1 hm); omega
      have a2 : y ∉ vs1.ownBlock.toList := fun hm => by
        rcases kvb with e | e
        · rw [e] at hm; exact a1 hm
        · have := e y (toList_some.1 hm); omega
      simp only [List.mem_cons, not_or]
      exact ⟨⟨by omega, by omega, a1⟩, by omega, by omega, a2⟩
    have hr2n := hnS r2 (by omega) (by omega)
    have hr4n := hnS r4 (by omega) (by omega)
    have hr5n := hnS r5 (by omega) (by omega)
    have hAn : ∀ a, A = some a → w0.heap.size ≤ a.block ∧ a.block < wa.heap.size := fun a ha => by
      rw [hAa] at ha; injection ha with ha; subst ha
      have := hA2 Aa hAa
      omega
    have hF6a : Fr [kb] w6 wa := hF69.trans hFa.nil
    have hB2b := (hB29.fr0 hFa).fr hFb hr2n.1
    have hB5b := (hB59.fr0 hFa).fr hFb hr5n.1
    have hAb : IntsAt wb A (kidsL t i) := Rows.fr (Rows.fr0 hA9 hFa) hFb fun a ha => (hnS a.block (hAn a ha).1 (hAn a ha).2).1
    have hsb := hFb.size
    conv => whnf
    refine EvLd.blk0 hB2b rfl ?_
    conv => whnf
    refine EvLd.blk0 hB5b rfl ?_
    conv => whnf
    refine EvCall.ret (blocks_ok (f := ks) hfo.2.2.1 ht ihS ihB hb1 sib (by have : [(1 : Int)].length = 1 := rfl; omega) (by omega) hkl (by rw [← kidsL_fo hfo]; exact hAb) (fun a ha => (hnS a.block (hAn a ha).1 (hAn a ha).2).2)) (by simpa [rsOf] using hr4n.2) fun v wc hFc hq => ?_
    obtain ⟨vs2, s2, hc1, kvc, resc, sic, lc⟩ := hq
    have hB2c := hB2b.fr hFc hr2n.2
    have hdc := Fr.drew wc
    conv => whnf
    refine EvDraw.go (fun w' => Fr [] wc w') (some 6) (.take 0 true (.take 1 true (.take 2 true (.take 3 true (.take 4 true (.take 5 true (.exec 6 .done))))))) (by kernel_rfl) ?_ ?_
    · exact Fr.drew _
    conv => whnf
    refine ⟨_, fun w' hw => (hB2c.fr0 hw.1).cell rfl, ?_⟩
    conv => whnf
    refine ⟨_, fun w' hw => (hc1.blk.fr0 hw.1).add rfl, ?_⟩
    conv => whnf
    refine EvPrim.del (cx_ok 0 []) rfl (KeyCls.int rfl) (Ky.int .i64) (hc1.fr0 hdc).map x.m (by simp [rsOf]; omega) fun wd hFd hMd => ?_
    conv => whnf
    have k1 : Fr (kb :: mr :: vs.ownBlock.toList) w0 wc := ((hF0a.mono (by simp)).trans hFb).trans' hFc fun y hy hlt => KeptV.sub kvb y hy (by have := hF0a.size; omega)
    refine ⟨(k1.trans hdc.nil).trans (hFd.mono (by simp)), vs2, _, (hc1.fr0 hdc).del hFd hMd, KeptV.trans (KeptV.trans (.inl rfl) kvb hF0a.size) kvc (by have := hF0a.size; omega), ⟨fun e => (by rw [hbad] at e; cases e), fun _ => ?_⟩, fun k b hk => ?_, by show s2.slots.length ≤ _; omega⟩
    · rw [hM, hc, e0, hc3, hlk]
      have r1 := resb.2 hbad
      show match (declL x.m false [1] s.slots s.seen).bind fun q => (blocksL ks.heads (sem ks) 0 q).map (delL x.m) with
        | some q => (⟨s2.slots, setF s2.seen x.m none, s2.bad⟩ : Lk) = ⟨q.1, q.2, false⟩
        | none => s2.bad = true
      cases hd : declL x.m false [1] s.slots s.seen with
      | none => rw [hd] at r1; exact resc.1 r1
      | some q =>
        rw [hd] at r1
        have r1' : s1 = ⟨q.1, q.2, false⟩ := r1
        subst r1'
        have r2 := resc.2 rfl
        rw [Option.bind_some]
        cases hb : blocksL ks.heads (sem ks) 0 q with
        | none => rw [show blocksL ks.heads (sem ks) 0 (q.1, q.2) = none from hb] at r2; exact r2
        | some q2 => rw [show blocksL ks.heads (sem ks) 0 (q.1, q.2) = some q2 from hb] at r2; rw [show s2 = ⟨q2.1, q2.2, false⟩ from r2]; rfl
    · have hk' : setF s2.seen x.m none k = some b := hk
      by_cases hkk : k = x.m
      · subst hkk; rw [setF_self] at hk'; cases hk'
      · rw [setF_ne _ _ hkk] at hk'; exact sic k b hk'
  conv => whnf
  refine EvIf.eq (fun o15 => ?_) (fun o15 => ?_)
  · have hM : R = if [2].contains (ks.heads.length : Int) && (decide (x.n ≥ 0) && IntKind.i64.wrap (x.m - 1) == x.n) && likeB x 0 x.n x.m && valueL (kh (exprs s.slots s.seen ks) 0) 6 then (declL x.n false [3, 6, 1] s.slots s.seen).bind fun q => (blocksL (ks.heads.drop 1) ((sem ks).drop 1) 0 q).map (delL x.n) else none := by
      rw [← hR]; unfold stepS; rw [if_neg o11, if_neg o12, if_neg o13, if_neg o14, if_pos o15]
    conv => whnf
    refine EvNew.blk fun gl w7 hgl hz7 hF7 hB7 => ?_
    conv => whnf
    have hs7 := hF7.size
    have hl7 : IntsAt w7 (some ⟨gl, 0, none⟩) [2] := HB.ints hB7
    refine EvCall.ret (many_ok (h6.fr0 hF7) hl7 (by simp) (hB26.fr0 hF7) (hB6.fr0 hF7)) (by simpa [rsOf] using hn4) fun v w8 hF8 hq => ?_
    obtain ⟨rfl, h8⟩ := hq
    rw [hkl, ← Fo.heads_length] at h8 ⊢
    have hF68 := (Fr.nil (S := [kb]) hF7).trans hF8
    have hF08 : Fr [kb] w0 w8 := hF06.nil.trans hF68
    have hB28 := hB26.fr hF68 (by simpa using hn2)
    have hB58 := hB6.fr hF68 (by simpa using hn5)
    conv => whnf
    refine EvSplit.any (fun b1 => ?_) (fun b1 => ?_)
    rotate_left
    · have hb : (mustL ([2].contains (ks.heads.length : Int)) s).bad = true := by simpa using b1
      have hn : R = none := by
        rw [hM]
        cases hc : [2].contains (ks.heads.length : Int)
        · rfl
        · rw [hc, mustL_true, hbad] at hb; cases hb
      conv => whnf
      exact ⟨hF08.mono (by simp), vs, _, h8, .inl rfl, ⟨fun e => (by rw [hbad] at e; cases e), fun _ => (by rw [hn]; exact hb)⟩, hs, by rw [mustL_slots]; omega⟩
    obtain ⟨_, hc⟩ := mustL_ok (show (mustL ([2].contains (ks.heads.length : Int)) s).bad = false by simpa using b1)
    rw [hc, mustL_true] at h8
    conv => whnf
    refine EvLd.blk0 hB28 rfl ?_
    conv => whnf
    refine EvSplit.ge (fun e1 => ?_) (fun e1 => ?_)
    rotate_left
    · have e0 : (decide (x.n ≥ 0) && IntKind.i64.wrap (x.m - 1) == x.n) = false := by simp [Int.not_le.2 e1]
      conv => whnf
      refine EvCall.ret (must_ok h8 (false)) (by simpa [rsOf] using hn4) fun v w8b hF8b hq => ?_
      obtain ⟨rfl, h8b⟩ := hq
      replace hF08 := hF08.trans hF8b
      replace hF68 := hF68.trans hF8b
      replace hB28 := hB28.fr hF8b (by simpa using hn2)
      replace hB58 := hB58.fr hF8b (by simpa using hn5)
      conv => whnf
      refine EvSplit.any (fun b3 => ?_) (fun b3 => ?_)
      rotate_left
      · have hb : (mustL (false) s).bad = true := by simpa using b3
        have hn : R = none := by
          rw [hM, hc, e0]
          cases hc2 : (false)
          · simp
          · rw [hc2, mustL_true, hbad] at hb; cases hb
        conv => whnf
        exact ⟨hF08.mono (by simp), vs, _, h8b, .inl rfl, ⟨fun e => (by rw [hbad] at e; cases e), fun _ => (by rw [hn]; exact hb)⟩, hs, by rw [mustL_slots]; omega⟩
      obtain ⟨_, hc3⟩ := mustL_ok (show (mustL (false) s).bad = false by simpa using b3)
      rw [hc3, mustL_true] at h8b
      clear h8
      have h8 := h8b
      cases hc3
    have e0 : (decide (x.n ≥ 0) && IntKind.i64.wrap (x.m - 1) == x.n) = (IntKind.i64.wrap (x.m - 1) == x.n) := by simp [e1]
    conv => whnf
    refine ⟨?_⟩
    conv => whnf
    refine EvCall.ret (must_ok h8 (IntKind.i64.wrap (x.m - 1) == x.n)) (by simpa [rsOf] using hn4) fun v w8b hF8b hq => ?_
    obtain ⟨rfl, h8b⟩ := hq
    replace hF08 := hF08.trans hF8b
    replace hF68 := hF68.trans hF8b
    replace hB28 := hB28.fr hF8b (by simpa using hn2)
    replace hB58 := hB58.fr hF8b (by simpa using hn5)
    conv => whnf
    refine EvSplit.any (fun b3 => ?_) (fun b3 => ?_)
    rotate_left
    · have hb : (mustL (IntKind.i64.wrap (x.m - 1) == x.n) s).bad = true := by simpa using b3
      have hn : R = none := by
        rw [hM, hc, e0]
        cases hc2 : (IntKind.i64.wrap (x.m - 1) == x.n)
        · simp
        · rw [hc2, mustL_true, hbad] at hb; cases hb
      conv => whnf
      exact ⟨hF08.mono (by simp), vs, _, h8b, .inl rfl, ⟨fun e => (by rw [hbad] at e; cases e), fun _ => (by rw [hn]; exact hb)⟩, hs, by rw [mustL_slots]; omega⟩
    obtain ⟨_, hc3⟩ := mustL_ok (show (mustL (IntKind.i64.wrap (x.m - 1) == x.n) s).bad = false by simpa using b3)
    rw [hc3, mustL_true] at h8b
    clear h8
    have h8 := h8b
    conv => whnf
    refine EvLd.blk0 hB28 rfl ?_
    conv => whnf
    refine EvCall.ret (like_ok h8 hlt 0 x.n x.m) (by simpa [rsOf] using hn4) fun v w9 hF9 hq => ?_
    rw [hget] at hq
    obtain ⟨rfl, h9⟩ := hq
    have hF09 := hF08.trans hF9
    have hF69 := hF68.trans hF9
    have hB29 := hB28.fr hF9 (by simpa using hn2)
    have hB59 := hB58.fr hF9 (by simpa using hn5)
    have hA9 : IntsAt w9 A (kidsL t i) := Rows.fr hA6 hF69 fun a ha => by have := hA3 a ha; simp only [List.mem_cons, not_or] at this; simpa using this.1
    conv => whnf
    refine EvIf.any (fun b2 => ?_) (fun b2 => ?_)
    rotate_left
    · have hb : (mustL (likeB x 0 x.n x.m) s).bad = true := by simpa using b2
      have hn : R = none := by
        rw [hM]
        cases hc2 : likeB x 0 x.n x.m
        · simp
        · rw [hc2, mustL_true, hbad] at hb; cases hb
      conv => whnf
      exact ⟨hF09.mono (by simp), vs, _, h9, .inl rfl, ⟨fun e => (by rw [hbad] at e; cases e), fun _ => (by rw [hn]; exact hb)⟩, hs, by rw [mustL_slots]; omega⟩
    obtain ⟨_, hlk⟩ := mustL_ok (show (mustL (likeB x 0 x.n x.m) s).bad = false by simpa using b2)
    rw [hlk, mustL_true] at h9
    have hk1 : 0 < ks.len := by
      rw [← Fo.heads_length]
      have : (ks.heads.length : Int) = 2 := by simpa using hc
      omega
    obtain ⟨p0, y0, kk0, r0', f1, f2, f3, f4, f5, f6⟩ := fo_tree s.slots s.seen (j := 0) hfo.2.2.1 hk1
    have hkd0 : (kidsL t i)[0]? = some (p0 : Int) := by rw [kidsL_fo hfo, List.getElem?_map, f2]; rfl
    have hx0 : kh (exprs s.slots s.seen ks) 0 = stepE s.slots s.seen y0 kk0.heads (exprs s.slots s.seen kk0) := by unfold kh; rw [f4]; rfl
    have hp0 := f5.lt
    have he0 : ExprOk t p0 y0 kk0 := ihE 0 p0 y0 kk0 f1
    conv => whnf
    refine EvDraw.go (fun w' => Fr [] w9 w') (some 4) (.take 0 true (.take 1 true (.take 2 true (.take 3 true (.exec 4 .done))))) (by kernel_rfl) ?_ ?_
    · exact Fr.drew _
    conv => whnf
    refine ⟨_, fun w' hw => (hB29.fr0 hw.1).cell rfl, ?_⟩
    conv => whnf
    refine ⟨_, fun w' hw => (hB59.fr0 hw.1).cell rfl, ?_⟩
    conv => whnf
    refine EvIdx.ints hA9 (by omega) (by omega) (by omega) rfl fun ab hab => ?_
    conv => whnf
    refine ⟨_, fun w' hw => IntsAt.cell (Rows.fr0 hA9 hw.1) hab hkd0, ?_⟩
    conv => whnf
    refine EvCall.ret (value_ok he0 (h9.fr0 (Fr.drew w9)) hs hlb 6) (by simpa [rsOf] using hn4) fun v w10 hF10 h10 => ?_
    have hF9a := (Fr.nil (S := [kb]) (Fr.drew w9)).trans hF10
    have hF0a := hF09.trans hF9a
    have hF6a := hF69.trans hF9a
    have hB2a := hB29.fr hF9a (by simpa using hn2)
    have hB5a := hB59.fr hF9a (by simpa using hn5)
    have hAa : IntsAt w10 A (kidsL t i) := Rows.fr hA6 hF6a fun a ha => by have := hA3 a ha; simp only [List.mem_cons, not_or] at this; simpa using this.1
    conv => whnf
    refine EvLd.blk0 hB2a rfl ?_
    conv => whnf
    refine EvNew.blk fun ga wa hga hza hFa hBa => ?_
    have hF0c := hF0a.trans hFa.nil
    have hs09 := hF0a.size
    have hr4a : r4 < w6.heap.size := by have := hF36.size; omega
    have hr5a : r5 < w6.heap.size := hB6.lt
    have hs69 := hF6a.size
    obtain ⟨Aa, hAa', hAlt⟩ := Rows.at_ hA6 (by rw [List.length_map, hkl]; omega)
    conv => whnf
    refine EvCall.ret (declare_ok (l := [3, 6, 1]) (h10.fr0 hFa) hs hlb (by simp) (by simp) hBa (fun e => by have := h.own.lt e; omega)) (by simpa [rsOf] using hr4S) fun v wb hFb hq => ?_
    obtain ⟨vs1, s1, hb1, kvb, resb, sib, lb⟩ := hq
    have hnS : ∀ y, w0.heap.size ≤ y → y < wa.heap.size → y ∉ kb :: mr :: vs.ownBlock.toList ∧ y ∉ kb :: mr :: vs1.ownBlock.toList := fun y hy1 hy2 => by
      have a1 : y ∉ vs.ownBlock.toList := fun hm => by have := h.own.lt (toList_some.1 hm); omega
      have a2 : y ∉ vs1.ownBlock.toList := fun hm => by
        rcases kvb with e | e
        · rw [e] at hm; exact a1 hm
        · have := e y (toList_some.1 hm); omega
      simp only [List.mem_cons, not_or]
      exact ⟨⟨by omega, by omega, a1⟩, by omega, by omega, a2⟩
    have hr2n := hnS r2 (by omega) (by omega)
    have hr4n := hnS r4 (by omega) (by omega)
    have hr5n := hnS r5 (by omega) (by omega)
    have hAn : ∀ a, A = some a → w0.heap.size ≤ a.block ∧ a.block < wa.heap.size := fun a ha => by
      rw [hAa'] at ha; injection ha with ha; subst ha
      have := hA2 Aa hAa'
      omega
    have hB2b := (hB2a.fr0 hFa).fr hFb hr2n.1
    have hB5b := (hB5a.fr0 hFa).fr hFb hr5n.1
    have hAb : IntsAt wb A (kidsL t i) := Rows.fr (Rows.fr0 hAa hFa) hFb fun a ha => (hnS a.block (hAn a ha).1 (hAn a ha).2).1
    have hsb := hFb.size
    conv => whnf
    refine EvDraw.go (fun w' => Fr [] wb w') (some 3) (.take 0 true (.take 1 true (.take 2 true (.exec 3 .done)))) (by kernel_rfl) ?_ ?_
    · exact Fr.drew _
    conv => whnf
    refine ⟨_, fun w' hw => (hB2b.fr0 hw.1).cell rfl, ?_⟩
    conv => whnf
    refine ⟨_, fun w' hw => (hB5b.fr0 hw.1).cell rfl, ?_⟩
    conv => whnf
    refine ⟨⟨by omega, by omega, by omega, by omega, ?_⟩⟩
    conv => whnf
    have hl2 : 2 ≤ (kidsL t i).length := by
      rw [hkl, ← Fo.heads_length]
      have : (ks.heads.length : Int) = 2 := by simpa using hc
      omega
    obtain ⟨x1, k1, rr, rfl⟩ : ∃ x1 k1 rr, ks = .cons x1 k1 rr := by
      cases ks with
      | nil => simp [Fo.len] at hk1
      | cons a b c => exact ⟨a, b, c, rfl⟩
    have hfr : FoAt t (i + 1 + 1 + k1.size) rr := hfo.2.2.1.2.2.2
    have hpos : kidsL t i = ((i + 1 : Nat) : Int) :: (rr.pos (i + 1 + 1 + k1.size)).map (Int.ofNat ·) := by rw [kidsL_fo hfo]; rfl
    have hAt : IntsAt wb.drew (A.map (·.add (1 * 1))) ((rr.pos (i + 1 + 1 + k1.size)).map (Int.ofNat ·)) := by
      have := Rows.fr0 hAb (Fr.drew wb)
      rw [hpos] at this
      exact IntsAt.tail this
    have hcn : ¬ ((c : Int).toNat = Int.toNat 1) := by rw [Int.toNat_natCast]; show ¬ c = 1; omega
    have hle0 := FoAt.le hfo.2.2.1 (by omega)
    have hle1 := rr.len_le_size
    have hsz : (Fo.cons x1 k1 rr).size = 1 + k1.size + rr.size := rfl
    refine EvCall.ret (blocks_ok (f := rr) hfr ht (fun j p y kk h => ihS (j + 1) p y kk (by simpa [Fo.at_] using h)) (fun j p y kk h => ihB (j + 1) p y kk (by simpa [Fo.at_] using h)) (hb1.fr0 (Fr.drew wb)) sib (by rw [mustL_slots] at lb; have : [(3 : Int), 6, 1].length = 3 := rfl; omega) (by omega)
      (by rw [Int.toNat_natCast, hkl]; show 1 + rr.len - 1 = rr.len; omega) (by rw [if_neg hcn]; exact hAt) (fun a ha => ?_)) (by simpa [rsOf] using hr4n.2) fun v wc hFc hq => ?_
    · rw [if_neg hcn] at ha
      obtain ⟨b, hb1', hb2'⟩ := Option.map_eq_some_iff.1 ha
      rw [← hb2', block_add]
      exact (hnS b.block (hAn b hb1').1 (hAn b hb1').2).2
    obtain ⟨vs2, s2, hc1, kvc, resc, sic, lc⟩ := hq
    have hB2c := (hB2b.fr0 (Fr.drew wb)).fr hFc hr2n.2
    have hdc := Fr.drew wc
    conv => whnf
    refine EvDraw.go (fun w' => Fr [] wc w') (some 6) (.take 0 true (.take 1 true (.take 2 true (.take 3 true (.take 4 true (.take 5 true (.exec 6 .done))))))) (by kernel_rfl) ?_ ?_
    · exact Fr.drew _
    conv => whnf
    refine ⟨_, fun w' hw => (hB2c.fr0 hw.1).cell rfl, ?_⟩
    conv => whnf
    refine ⟨_, fun w' hw => (hc1.blk.fr0 hw.1).add rfl, ?_⟩
    conv => whnf
    refine EvPrim.del (cx_ok 0 []) rfl (KeyCls.int rfl) (Ky.int .i64) (hc1.fr0 hdc).map x.n (by simp [rsOf]; omega) fun wd hFd hMd => ?_
    conv => whnf
    have hdb : wb.heap.size ≤ wb.drew.heap.size := (Fr.drew wb).size
    have k1 : Fr (kb :: mr :: vs.ownBlock.toList) w0 wc := (((hF0c.mono (by simp)).trans hFb).trans (Fr.drew wb).nil).trans' hFc fun y hy hlt => KeptV.sub kvb y hy (by have := hF0c.size; omega)
    refine ⟨(k1.trans hdc.nil).trans (hFd.mono (by simp)), vs2, _, (hc1.fr0 hdc).del hFd hMd, KeptV.trans (KeptV.trans (.inl rfl) kvb hF0c.size) kvc (by have := hF0c.size; omega), ⟨fun e => (by rw [hbad] at e; cases e), fun _ => ?_⟩, fun k b hk => ?_, by show s2.slots.length ≤ _; omega⟩
    · rw [hM, hc, e0, hc3, hlk, hx0]
      rw [mustL_slots, mustL_seen] at resb
      cases hv : valueL (stepE s.slots s.seen y0 kk0.heads (exprs s.slots s.seen kk0)) 6
      · rw [hv] at resb
        exact resc.1 (resb.1 (by simp [mustL]))
      rw [hv, mustL_true] at resb
      have r1 := resb.2 hbad
      show match (declL x.n false [3, 6, 1] s.slots s.seen).bind fun q => (blocksL rr.heads (sem rr) 0 q).map (delL x.n) with
        | some q => (⟨s2.slots, setF s2.seen x.n none, s2.bad⟩ : Lk) = ⟨q.1, q.2, false⟩
        | none => s2.bad = true
      cases hd : declL x.n false [3, 6, 1] s.slots s.seen with
      | none => rw [hd] at r1; exact resc.1 r1
      | some q =>
        rw [hd] at r1
        have r1' : s1 = ⟨q.1, q.2, false⟩ := r1
        subst r1'
        have r2 := resc.2 rfl
        rw [Option.bind_some]
        cases hb : blocksL rr.heads (sem rr) 0 q with
        | none => rw [show blocksL rr.heads (sem rr) 0 (q.1, q.2) = none from hb] at r2; exact r2
        | some q2 => rw [show blocksL rr.heads (sem rr) 0 (q.1, q.2) = some q2 from hb] at r2; rw [show s2 = ⟨q2.1, q2.2, false⟩ from r2]; rfl
    · have hk' : setF s2.seen x.n none k = some b := hk
      by_cases hkk : k = x.n
      · subst hkk; rw [setF_self] at hk'; cases hk'
      · rw [setF_ne _ _ hkk] at hk'; exact sic k b hk'
  conv => whnf
  refine EvIf.eq (fun o16 => ?_) (fun o16 => ?_)
  · have hM : R = if [2, 3].contains (ks.heads.length : Int) && likeB x 0 x.n 0 && valueL (kh (exprs s.slots s.seen ks) 0) 6 then
        (declL x.n false [3] s.slots s.seen).bind fun q => ((blocksL ((ks.heads.drop 1).take 1) (((sem ks).drop 1).take 1) 0 q).map (delL x.n)).bind fun q => if ks.heads.length = 3 then (((sem ks)[2]?).elim none fun m => m.2 q) else some q
      else none := by
      rw [← hR]; unfold stepS; rw [if_neg o11, if_neg o12, if_neg o13, if_neg o14, if_neg o15, if_pos o16]
    conv => whnf
    refine EvNew.blk fun gl w7 hgl hz7 hF7 hB7 => ?_
    conv => whnf
    have hs7 := hF7.size
    have hl7 : IntsAt w7 (some ⟨gl, 0, none⟩) [2, 3] := HB.ints hB7
    refine EvCall.ret (many_ok (h6.fr0 hF7) hl7 (by simp) (hB26.fr0 hF7) (hB6.fr0 hF7)) (by simpa [rsOf] using hn4) fun v w8 hF8 hq => ?_
    obtain ⟨rfl, h8⟩ := hq
    rw [hkl, ← Fo.heads_length] at h8 ⊢
    have hF68 := (Fr.nil (S := [kb]) hF7).trans hF8
    have hF08 : Fr [kb] w0 w8 := hF06.nil.trans hF68
    have hB28 := hB26.fr hF68 (by simpa using hn2)
    have hB58 := hB6.fr hF68 (by simpa using hn5)
    conv => whnf
    refine EvSplit.any (fun b1 => ?_) (fun b1 => ?_)
    rotate_left
    · have hb : (mustL ([2, 3].contains (ks.heads.length : Int)) s).bad = true := by simpa using b1
      have hn : R = none := by
        rw [hM]
        cases hc : [2, 3].contains (ks.heads.length : Int)
        · rfl
        · rw [hc, mustL_true, hbad] at hb; cases hb
      conv => whnf
      exact ⟨hF08.mono (by simp), vs, _, h8, .inl rfl, ⟨fun e => (by rw [hbad] at e; cases e), fun _ => (by rw [hn]; exact hb)⟩, hs, by rw [mustL_slots]; omega⟩
    obtain ⟨_, hc⟩ := mustL_ok (show (mustL ([2, 3].contains (ks.heads.length : Int)) s).bad = false by simpa using b1)
    rw [hc, mustL_true] at h8
    conv => whnf
    refine EvLd.blk0 hB28 rfl ?_
    conv => whnf
    refine EvCall.ret (like_ok h8 hlt 0 x.n 0) (by simpa [rsOf] using hn4) fun v w9 hF9 hq => ?_
    rw [hget] at hq
    obtain ⟨rfl, h9⟩ := hq
    have hF09 := hF08.trans hF9
    have hF69 := hF68.trans hF9
    have hB29 := hB28.fr hF9 (by simpa using hn2)
    have hB59 := hB58.fr hF9 (by simpa using hn5)
    have hA9 : IntsAt w9 A (kidsL t i) := Rows.fr hA6 hF69 fun a ha => by have := hA3 a ha; simp only [List.mem_cons, not_or] at this; simpa using this.1
    conv => whnf
    refine EvIf.any (fun b2 => ?_) (fun b2 => ?_)
    rotate_left
    · have hb : (mustL (likeB x 0 x.n 0) s).bad = true := by simpa using b2
      have hn : R = none := by
        rw [hM]
        cases hc2 : likeB x 0 x.n 0
        · simp
        · rw [hc2, mustL_true, hbad] at hb; cases hb
      conv => whnf
      exact ⟨hF09.mono (by simp), vs, _, h9, .inl rfl, ⟨fun e => (by rw [hbad] at e; cases e), fun _ => (by rw [hn]; exact hb)⟩, hs, by rw [mustL_slots]; omega⟩
    obtain ⟨_, hlk⟩ := mustL_ok (show (mustL (likeB x 0 x.n 0) s).bad = false by simpa using b2)
    rw [hlk, mustL_true] at h9
    have hl2 : ks.len = 2 ∨ ks.len = 3 := by
      rw [← Fo.heads_length]
      have : (ks.heads.length : Int) = 2 ∨ (ks.heads.length : Int) = 3 := by simpa using hc
      omega
    have hk1 : 0 < ks.len := by omega
    obtain ⟨p0, y0, kk0, r0', f1, f2, f3, f4, f5, f6⟩ := fo_tree s.slots s.seen (j := 0) hfo.2.2.1 hk1
    have hkd0 : (kidsL t i)[0]? = some (p0 : Int) := by rw [kidsL_fo hfo, List.getElem?_map, f2]; rfl
    have hx0 : kh (exprs s.slots s.seen ks) 0 = stepE s.slots s.seen y0 kk0.heads (exprs s.slots s.seen kk0) := by unfold kh; rw [f4]; rfl
    have hp0 := f5.lt
    have he0 : ExprOk t p0 y0 kk0 := ihE 0 p0 y0 kk0 f1
    conv => whnf
    refine EvDraw.go (fun w' => Fr [] w9 w') (some 4) (.take 0 true (.take 1 true (.take 2 true (.take 3 true (.exec 4 .done))))) (by kernel_rfl) ?_ ?_
    · exact Fr.drew _
    conv => whnf
    refine ⟨_, fun w' hw => (hB29.fr0 hw.1).cell rfl, ?_⟩
    conv => whnf
    refine ⟨_, fun w' hw => (hB59.fr0 hw.1).cell rfl, ?_⟩
    conv => whnf
    refine EvIdx.ints hA9 (by omega) (by omega) (by omega) rfl fun ab hab => ?_
    conv => whnf
    refine ⟨_, fun w' hw => IntsAt.cell (Rows.fr0 hA9 hw.1) hab hkd0, ?_⟩
    conv => whnf
    refine EvCall.ret (value_ok he0 (h9.fr0 (Fr.drew w9)) hs hlb 6) (by simpa [rsOf] using hn4) fun v w10 hF10 h10 => ?_
    have hF9a := (Fr.nil (S := [kb]) (Fr.drew w9)).trans hF10
    have hF0a := hF09.trans hF9a
    have hF6a := hF69.trans hF9a
    have hB2a := hB29.fr hF9a (by simpa using hn2)
    have hB5a := hB59.fr hF9a (by simpa using hn5)
    have hAa : IntsAt w10 A (kidsL t i) := Rows.fr hA6 hF6a fun a ha => by have := hA3 a ha; simp only [List.mem_cons, not_or] at this; simpa using this.1
    conv => whnf
    refine EvLd.blk0 hB2a rfl ?_
    conv => whnf
    refine EvNew.blk fun ga wa hga hza hFa hBa => ?_
    have hF0c := hF0a.trans hFa.nil
    have hs09 := hF0a.size
    have hr4a : r4 < w6.heap.size := by have := hF36.size; omega
    have hr5a : r5 < w6.heap.size := hB6.lt
    have hs69 := hF6a.size
    obtain ⟨Aa, hAa', hAlt⟩ := Rows.at_ hA6 (by rw [List.length_map, hkl]; omega)
    conv => whnf
    refine EvCall.ret (declare_ok (l := [3]) (h10.fr0 hFa) hs hlb (by simp) (by simp) hBa (fun e => by have := h.own.lt e; omega)) (by simpa [rsOf] using hr4S) fun v wb hFb hq => ?_
    obtain ⟨vs1, s1, hb1, kvb, resb, sib, lb⟩ := hq
    have hnS : ∀ y, w0.heap.size ≤ y → y < wa.heap.size → y ∉ kb :: mr :: vs.ownBlock.toList ∧ y ∉ kb :: mr :: vs1.ownBlock.toList := fun y hy1 hy2 => by
      have a1 : y ∉ vs.ownBlock.toList := fun hm => by have := h.own.lt (toList_some.1 hm); omega
      have a2 : y ∉ vs1.ownBlock.toList := fun hm => by
        rcases kvb with e | e
        · rw [e] at hm; exact a1 hm
        · have := e y (toList_some.1 hm); omega
      simp only [List.mem_cons, not_or]
      exact ⟨⟨by omega, by omega, a1⟩, by omega, by omega, a2⟩
    have hr2n := hnS r2 (by omega) (by omega)
    have hr4n := hnS r4 (by omega) (by omega)
    have hr5n := hnS r5 (by omega) (by omega)
    have hAn : ∀ a, A = some a → w0.heap.size ≤ a.block ∧ a.block < wa.heap.size := fun a ha => by
      rw [hAa'] at ha; injection ha with ha; subst ha
      have := hA2 Aa hAa'
      omega
    have hB2b := (hB2a.fr0 hFa).fr hFb hr2n.1
    have hB5b := (hB5a.fr0 hFa).fr hFb hr5n.1
    have hAb : IntsAt wb A (kidsL t i) := Rows.fr (Rows.fr0 hAa hFa) hFb fun a ha => (hnS a.block (hAn a ha).1 (hAn a ha).2).1
    have hsb := hFb.size
    conv => whnf
    refine EvDraw.go (fun w' => Fr [] wb w') (some 3) (.take 0 true (.take 1 true (.take 2 true (.exec 3 .done)))) (by kernel_rfl) ?_ ?_
    · exact Fr.drew _
    conv => whnf
    refine ⟨_, fun w' hw => (hB2b.fr0 hw.1).cell rfl, ?_⟩
    conv => whnf
    refine ⟨_, fun w' hw => (hB5b.fr0 hw.1).cell rfl, ?_⟩
    conv => whnf
    refine ⟨⟨by omega, by omega, by omega, by omega, ?_⟩⟩
    conv => whnf
    obtain ⟨x1, k1', x2, k2', rr, rfl⟩ : ∃ x1 k1' x2 k2' rr, ks = .cons x1 k1' (.cons x2 k2' rr) := by
      cases ks with
      | nil => simp [Fo.len] at hk1
      | cons a b c =>
        cases c with
        | nil => simp only [Fo.len] at hl2; omega
        | cons d e f => exact ⟨a, b, d, e, f, rfl⟩
    have hfr : FoAt t (i + 1 + 1 + k1'.size) (.cons x2 k2' rr) := hfo.2.2.1.2.2.2
    have hfr1 : FoAt t (i + 1 + 1 + k1'.size) (.cons x2 k2' .nil) := ⟨hfr.1, hfr.2.1, hfr.2.2.1, trivial⟩
    have hpos : kidsL t i = ((i + 1 : Nat) : Int) :: ((i + 1 + 1 + k1'.size : Nat) : Int) :: (rr.pos (i + 1 + 1 + k1'.size + 1 + k2'.size)).map (Int.ofNat ·) := by rw [kidsL_fo hfo]; rfl
    have hAt : IntsAt wb.drew (A.map (·.add (1 * 1))) (((Fo.cons x2 k2' .nil).pos (i + 1 + 1 + k1'.size)).map (Int.ofNat ·)) := by
      have := Rows.fr0 hAb (Fr.drew wb)
      rw [hpos] at this
      exact IntsAt.head (IntsAt.tail this)
    have hcn : ¬ ((c : Int).toNat = Int.toNat 1) := by rw [Int.toNat_natCast]; show ¬ c = 1; omega
    have hle0 := FoAt.le hfo.2.2.1 (by omega)
    have hle1 := rr.len_le_size
    have hsz : (Fo.cons x1 k1' (.cons x2 k2' rr)).size = 1 + k1'.size + (1 + k2'.size + rr.size) := rfl
    have hsz1 : (Fo.cons x2 k2' .nil).size = 1 + k2'.size + 0 := rfl
    refine EvCall.ret (blocks_ok (f := .cons x2 k2' .nil) hfr1 ht (fun j p y kk h => ?_) (fun j p y kk h => ?_) (hb1.fr0 (Fr.drew wb)) sib (by rw [mustL_slots] at lb; have : [(3 : Int)].length = 1 := rfl; omega) (by simp [Fo.len])
      (by simp [Fo.len]) (by rw [if_neg hcn]; exact hAt) (fun a ha => ?_)) (by simpa [rsOf] using hr4n.2) fun v wc hFc hq => ?_
    · cases j with
      | zero => exact ihS 1 p y kk (by simpa [Fo.at_] using h)
      | succ j => simp [Fo.at_] at h
    · cases j with
      | zero => exact ihB 1 p y kk (by simpa [Fo.at_] using h)
      | succ j => simp [Fo.at_] at h
    · rw [if_neg hcn] at ha
      obtain ⟨b, hb1', hb2'⟩ := Option.map_eq_some_iff.1 ha
      rw [← hb2', block_add]
      exact (hnS b.block (hAn b hb1').1 (hAn b hb1').2).2
    obtain ⟨vs2, s2, hc1, kvc, resc, sic, lc⟩ := hq
    have hB2c := (hB2b.fr0 (Fr.drew wb)).fr hFc hr2n.2
    have hB5c := (hB5b.fr0 (Fr.drew wb)).fr hFc hr5n.2
    have hAc : IntsAt wc A _ := Rows.fr (Rows.fr0 hAb (Fr.drew wb)) hFc fun a ha => (hnS a.block (hAn a ha).1 (hAn a ha).2).2
    have hdc := Fr.drew wc
    conv => whnf
    refine EvDraw.go (fun w' => Fr [] wc w') (some 6) (.take 0 true (.take 1 true (.take 2 true (.take 3 true (.take 4 true (.take 5 true (.exec 6 .done))))))) (by kernel_rfl) ?_ ?_
    · exact Fr.drew _
    conv => whnf
    refine ⟨_, fun w' hw => (hB2c.fr0 hw.1).cell rfl, ?_⟩
    conv => whnf
    refine ⟨_, fun w' hw => (hc1.blk.fr0 hw.1).add rfl, ?_⟩
    conv => whnf
    refine EvPrim.del (cx_ok 0 []) rfl (KeyCls.int rfl) (Ky.int .i64) (hc1.fr0 hdc).map x.n (by simp [rsOf]; omega) fun wd hFd hMd => ?_
    have hdb : wb.heap.size ≤ wb.drew.heap.size := (Fr.drew wb).size
    have hsc := hFc.size
    have hscd := hdc.size
    have k1 : Fr (kb :: mr :: vs.ownBlock.toList) w0 wc := (((hF0c.mono (by simp)).trans hFb).trans (Fr.drew wb).nil).trans' hFc fun y hy hlt => KeptV.sub kvb y hy (by have := hF0c.size; omega)
    have k2 : Fr (kb :: mr :: vs.ownBlock.toList) w0 wd := (k1.trans hdc.nil).trans (hFd.mono (by simp))
    have kv2 : KeptV vs vs2 w0 := KeptV.trans (KeptV.trans (.inl rfl) kvb hF0c.size) kvc (by have := hF0c.size; omega)
    have hd1 := (hc1.fr0 hdc).del hFd hMd
    have hlt2 : ∀ y, y ∉ [mr] → wc.heap.size ≤ wd.heap.size := fun _ _ => by have := hFd.size; omega
    have hB2d := (hB2c.fr0 hdc).fr hFd (by simp; omega)
    have hB5d := (hB5c.fr0 hdc).fr hFd (by simp; omega)
    have hAd := Rows.fr (Rows.fr0 hAc hdc) hFd fun a ha => by have := hAn a ha; simp; omega
    obtain ⟨R1, hR1d⟩ : ∃ R1, R1 = (if [2, 3].contains ((Fo.cons x1 k1' (.cons x2 k2' rr)).heads.length : Int) && likeB x 0 x.n 0 && valueL (kh (exprs s.slots s.seen (.cons x1 k1' (.cons x2 k2' rr))) 0) 6 then
        (declL x.n false [3] s.slots s.seen).bind fun q => (blocksL (((Fo.cons x1 k1' (.cons x2 k2' rr)).heads.drop 1).take 1) (((sem (.cons x1 k1' (.cons x2 k2' rr))).drop 1).take 1) 0 q).map (delL x.n) else none) := ⟨_, rfl⟩
    have hRg : R = R1.bind fun q => if (Fo.cons x1 k1' (.cons x2 k2' rr)).heads.length = 3 then (((sem (.cons x1 k1' (.cons x2 k2' rr)))[2]?).elim none fun m => m.2 q) else some q := by
      rw [hM, hR1d]
      by_cases hcc : ([2, 3].contains ((Fo.cons x1 k1' (.cons x2 k2' rr)).heads.length : Int) && likeB x 0 x.n 0 && valueL (kh (exprs s.slots s.seen (.cons x1 k1' (.cons x2 k2' rr))) 0) 6) = true
      · rw [if_pos hcc, if_pos hcc]
        cases declL x.n false [3] s.slots s.seen with
        | none => rfl
        | some q => rfl
      · rw [if_neg hcc, if_neg hcc]; rfl
    have hR1 : Res s R1 ⟨s2.slots, setF s2.seen x.n none, s2.bad⟩ := by
      refine ⟨fun e => (by rw [hbad] at e; cases e), fun _ => ?_⟩
      rw [hR1d, hc, hlk, hx0]
      rw [mustL_slots, mustL_seen] at resb
      cases hv : valueL (stepE s.slots s.seen y0 kk0.heads (exprs s.slots s.seen kk0)) 6
      · rw [hv] at resb
        exact resc.1 (resb.1 (by simp [mustL]))
      rw [hv, mustL_true] at resb
      have r1 := resb.2 hbad
      show match (declL x.n false [3] s.slots s.seen).bind fun q => (blocksL (Fo.cons x2 k2' .nil).heads (sem (.cons x2 k2' .nil)) 0 q).map (delL x.n) with
        | some q => (⟨s2.slots, setF s2.seen x.n none, s2.bad⟩ : Lk) = ⟨q.1, q.2, false⟩
        | none => s2.bad = true
      cases hd : declL x.n false [3] s.slots s.seen with
      | none => rw [hd] at r1; exact resc.1 r1
      | some q =>
        rw [hd] at r1
        have r1' : s1 = ⟨q.1, q.2, false⟩ := r1
        subst r1'
        have r2 := resc.2 rfl
        rw [Option.bind_some]
        cases hb : blocksL (Fo.cons x2 k2' .nil).heads (sem (.cons x2 k2' .nil)) 0 q with
        | none => rw [show blocksL (Fo.cons x2 k2' .nil).heads (sem (.cons x2 k2' .nil)) 0 (q.1, q.2) = none from hb] at r2; exact r2
        | some q2 => rw [show blocksL (Fo.cons x2 k2' .nil).heads (sem (.cons x2 k2' .nil)) 0 (q.1, q.2) = some q2 from hb] at r2; rw [show s2 = ⟨q2.1, q2.2, false⟩ from r2]; rfl
    have si3 : SeenIn ⟨s2.slots, setF s2.seen x.n none, s2.bad⟩ := by
      intro k b hk
      have hk' : setF s2.seen x.n none k = some b := hk
      by_cases hkk : k = x.n
      · subst hkk; rw [setF_self] at hk'; cases hk'
      · rw [setF_ne _ _ hkk] at hk'; exact sic k b hk'
    have hl3 : s2.slots.length ≤ 2 + 3 * (i + 1 + (Fo.cons x1 k1' (.cons x2 k2' rr)).size) := by omega
    have hlen : (kidsL t i).length = 2 + rr.len := by rw [hkl]; simp only [Fo.len]; omega
    have hhl : (Fo.cons x1 k1' (.cons x2 k2' rr)).heads.length = 2 + rr.len := by rw [Fo.heads_length]; simp only [Fo.len]; omega
    conv => whnf
    refine EvLd.blk0 hB5d rfl ?_
    conv => whnf
    refine EvSplit.eq (fun g3 => ?_) (fun g3 => ?_)
    rotate_left
    · conv => whnf
      refine ⟨k2, vs2, _, hd1, kv2, ?_, si3, hl3⟩
      rw [hRg]
      cases R1 with
      | none => exact hR1
      | some q => rw [Option.bind_some, if_neg (by omega)]; exact hR1
    conv => whnf
    refine EvLd.blk0 hB2d rfl ?_
    conv => whnf
    refine EvLd.blk hd1.blk rfl ?_
    conv => whnf
    refine EvIf.not (fun g4 => ?_) (fun g4 => ?_)
    rotate_left
    · conv => whnf
      refine ⟨k2, vs2, _, hd1, kv2, ?_, si3, hl3⟩
      refine ⟨hR1.1, fun e => ?_⟩
      have := hR1.2 e
      cases hRR : R1 with
      | none => rw [hRg, hRR]; exact g4
      | some q =>
        rw [hRR] at this
        have : s2.bad = false := by injection this
        rw [this] at g4; cases g4
    obtain ⟨x3, k3', rfl⟩ : ∃ x3 k3', rr = .cons x3 k3' .nil := by
      cases rr with
      | nil => simp only [Fo.len] at hlen; omega
      | cons a b c =>
        cases c with
        | nil => exact ⟨a, b, rfl⟩
        | cons d e f => simp only [Fo.len] at hlen hl2; omega
    have hk2 : (kidsL t i)[2]? = some ((i + 1 + 1 + k1'.size + 1 + k2'.size : Nat) : Int) := by rw [hpos]; rfl
    have hse := hFd.size
    conv => whnf
    refine EvDraw.go (fun w' => Fr [] wd w') (some 4) (.take 0 true (.take 1 true (.take 2 true (.take 3 true (.exec 4 .done))))) (by kernel_rfl) ?_ ?_
    · exact Fr.drew _
    conv => whnf
    refine ⟨_, fun w' hw => (hB2d.fr0 hw.1).cell rfl, ?_⟩
    conv => whnf
    refine ⟨_, fun w' hw => (hB5d.fr0 hw.1).cell rfl, ?_⟩
    conv => whnf
    refine EvIdx.ints hAd (by omega) (by omega) (by omega) rfl fun ab hab => ?_
    conv => whnf
    refine ⟨_, fun w' hw => IntsAt.cell (Rows.fr0 hAd hw.1) hab hk2, ?_⟩
    conv => whnf
    have hr4e := hnS r4 (by omega) (by omega)
    have hvn : ∀ y, w0.heap.size ≤ y → y < wa.heap.size → y ∉ kb :: mr :: vs2.ownBlock.toList := fun y hy1 hy2 => by
      have a1 := hnS y hy1 hy2
      have a2 : y ∉ vs2.ownBlock.toList := fun hm => by
        rcases kvc with e | e
        · rw [e] at hm; exact a1.2 (by simp only [List.mem_cons]; exact .inr (.inr hm))
        · have := e y (toList_some.1 hm); omega
      simp only [List.mem_cons, not_or]
      exact ⟨by omega, by omega, a2⟩
    refine EvCall.ret (ihB 2 _ x3 k3' (by simp [Fo.at_]) (hd1.fr0 (Fr.drew wd)) si3 (by show s2.slots.length ≤ _; omega) g4) (by simpa [rsOf] using hvn r4 (by omega) (by omega)) fun v we hFe hq => ?_
    obtain ⟨vs4, s4, he1, kve, rese, sie, le⟩ := hq
    conv => whnf
    refine ⟨(k2.trans (Fr.drew wd).nil).trans' hFe (KeptV.sub kv2), vs4, s4, he1, KeptV.trans kv2 kve (by have := k2.size; have := (Fr.drew wd).size; omega), ?_, sie, by simp only [Fo.size] at le ⊢; omega⟩
    refine ⟨fun e => (by rw [hbad] at e; cases e), fun e => ?_⟩
    have h1 := hR1.2 e
    rw [hRg]
    cases hRR : R1 with
    | none => rw [hRR] at h1; rw [show s2.bad = true from h1] at g4; cases g4
    | some q =>
      rw [hRR] at h1
      injection h1 with e1 e2 e3
      have h2 := rese.2 g4
      show match blockB x3 k3'.heads (sem k3') q with | some q => s4 = ⟨q.1, q.2, false⟩ | none => s4.bad = true
      rw [show q = (s2.slots, setF s2.seen x.n none) from by rw [e1, e2]]
      exact h2
  conv => whnf
  have h1718 : ∀ o : x.op = 17 ∨ x.op = 18, R = if [0].contains (ks.heads.length : Int) && likeB x 0 0 0 then some (s.slots, s.seen) else none := fun o => by
    rw [← hR]; unfold stepS; rw [if_neg o11, if_neg o12, if_neg o13, if_neg o14, if_neg o15, if_neg o16, if_pos o]
  refine EvIf.eq (fun o17 => ?_) (fun o17 => ?_)
  · have hM := h1718 (.inl o17)
    conv => whnf
    refine EvIf.eq (fun _ => ?_) (fun n => absurd o17 n)
    conv => whnf
    refine EvNew.blk fun gl w7 hgl hz7 hF7 hB7 => ?_
    conv => whnf
    have hs7 := hF7.size
    have hl7 : IntsAt w7 (some ⟨gl, 0, none⟩) [0] := HB.ints hB7
    refine EvCall.ret (many_ok (h6.fr0 hF7) hl7 (by simp) (hB26.fr0 hF7) (hB6.fr0 hF7)) (by simpa [rsOf] using hn4) fun v w8 hF8 hq => ?_
    obtain ⟨rfl, h8⟩ := hq
    rw [hkl, ← Fo.heads_length] at h8 ⊢
    have hF68 := (Fr.nil (S := [kb]) hF7).trans hF8
    have hF08 : Fr [kb] w0 w8 := hF06.nil.trans hF68
    have hB28 := hB26.fr hF68 (by simpa using hn2)
    have hB58 := hB6.fr hF68 (by simpa using hn5)
    conv => whnf
    refine EvIf.any (fun b1 => ?_) (fun b1 => ?_)
    rotate_left
    · have hb : (mustL ([0].contains (ks.heads.length : Int)) s).bad = true := by simpa using b1
      have hn : R = none := by
        rw [hM]
        cases hc : [0].contains (ks.heads.length : Int)
        · rfl
        · rw [hc, mustL_true, hbad] at hb; cases hb
      conv => whnf
      exact ⟨hF08.mono (by simp), vs, _, h8, .inl rfl, ⟨fun e => (by rw [hbad] at e; cases e), fun _ => (by rw [hn]; exact hb)⟩, hs, by rw [mustL_slots]; omega⟩
    obtain ⟨_, hc⟩ := mustL_ok (show (mustL ([0].contains (ks.heads.length : Int)) s).bad = false by simpa using b1)
    rw [hc, mustL_true] at h8
    conv => whnf
    refine EvLd.blk0 hB28 rfl ?_
    conv => whnf
    refine EvCall.ret (like_ok h8 hlt 0 0 0) (by simpa [rsOf] using hn4) fun v w9 hF9 hq => ?_
    rw [hget] at hq
    obtain ⟨rfl, h9⟩ := hq
    conv => whnf
    refine ⟨(hF08.trans hF9).mono (by simp), vs, _, h9, .inl rfl, ⟨fun e => (by rw [hbad] at e; cases e), fun _ => ?_⟩, hs, by rw [mustL_slots]; omega⟩
    rw [hM, hc, Bool.true_and]
    cases likeB x 0 0 0
    · show (mustL false s).bad = true
      simp [mustL]
    · show mustL true s = ⟨s.slots, s.seen, false⟩
      rw [mustL_true, ← hbad]
  conv => whnf
  refine EvIf.eq (fun o18 => ?_) (fun o18 => ?_)
  · have hM := h1718 (.inr o18)
    conv => whnf
    refine EvNew.blk fun gl w7 hgl hz7 hF7 hB7 => ?_
    conv => whnf
    have hs7 := hF7.size
    have hl7 : IntsAt w7 (some ⟨gl, 0, none⟩) [0] := HB.ints hB7
    refine EvCall.ret (many_ok (h6.fr0 hF7) hl7 (by simp) (hB26.fr0 hF7) (hB6.fr0 hF7)) (by simpa [rsOf] using hn4) fun v w8 hF8 hq => ?_
    obtain ⟨rfl, h8⟩ := hq
    rw [hkl, ← Fo.heads_length] at h8 ⊢
    have hF68 := (Fr.nil (S := [kb]) hF7).trans hF8
    have hF08 : Fr [kb] w0 w8 := hF06.nil.trans hF68
    have hB28 := hB26.fr hF68 (by simpa using hn2)
    have hB58 := hB6.fr hF68 (by simpa using hn5)
    conv => whnf
    refine EvIf.any (fun b1 => ?_) (fun b1 => ?_)
    rotate_left
    · have hb : (mustL ([0].contains (ks.heads.length : Int)) s).bad = true := by simpa using b1
      have hn : R = none := by
        rw [hM]
        cases hc : [0].contains (ks.heads.length : Int)
        · rfl
        · rw [hc, mustL_true, hbad] at hb; cases hb
      conv => whnf
      exact ⟨hF08.mono (by simp), vs, _, h8, .inl rfl, ⟨fun e => (by rw [hbad] at e; cases e), fun _ => (by rw [hn]; exact hb)⟩, hs, by rw [mustL_slots]; omega⟩
    obtain ⟨_, hc⟩ := mustL_ok (show (mustL ([0].contains (ks.heads.length : Int)) s).bad = false by simpa using b1)
    rw [hc, mustL_true] at h8
    conv => whnf
    refine EvLd.blk0 hB28 rfl ?_
    conv => whnf
    refine EvCall.ret (like_ok h8 hlt 0 0 0) (by simpa [rsOf] using hn4) fun v w9 hF9 hq => ?_
    rw [hget] at hq
    obtain ⟨rfl, h9⟩ := hq
    conv => whnf
    refine ⟨(hF08.trans hF9).mono (by simp), vs, _, h9, .inl rfl, ⟨fun e => (by rw [hbad] at e; cases e), fun _ => ?_⟩, hs, by rw [mustL_slots]; omega⟩
    rw [hM, hc, Bool.true_and]
    cases likeB x 0 0 0
    · show (mustL false s).bad = true
      simp [mustL]
    · show mustL true s = ⟨s.slots, s.seen, false⟩
      rw [mustL_true, ← hbad]
  conv => whnf
  refine EvIf.eq (fun o19 => ?_) (fun o19 => ?_)
  · have hM : R = (signL effectsL x.n).bind fun sg => (callL sg x ks.heads (exprs s.slots s.seen ks)).bind fun h => if h ≤ 256 then some (s.slots, s.seen) else none := by
      rw [← hR]; unfold stepS; rw [if_neg o11, if_neg o12, if_neg o13, if_neg o14, if_neg o15, if_neg o16, if_neg (by omega), if_pos o19]
    have hr4l : r4 < w6.heap.size := by have := hF36.size; omega
    conv => whnf
    refine EvDraw.meet (Nat × SgV) (fun (rb, z) => ⟨[(1, .v (.int .i64 i)), (2, .v (.pointer (some ⟨r2, 0, none⟩))), (5, .v (.pointer (some ⟨r5, 0, none⟩))), (10, .v (.pointer (some ⟨rb, 0, none⟩))), (11, .v (.bool z.ok))], [], 0⟩) (fun (rb, z) w' => Fr [] w6 w' ∧ HB w' rb 146 z.cells ∧ w6.heap.size ≤ rb ∧ SgR w6.heap.size effectsL x.n w' z) (fun w' => Fr [] w6 w') none (.take 1 true (.take 2 true (.two 0 (.two 3 (.take 4 true (.take 5 true (.take 6 true (.exec 7 (.exec 8 (.take 9 true .done)))))) 7 (.exec 3 (.take 4 true (.take 5 true (.take 6 true (.exec 8 (.take 9 true .done))))))) 7 (.exec 0 (.exec 3 (.take 4 true (.take 5 true (.take 6 true (.exec 8 (.take 9 true .done)))))))))) (by kernel_rfl) ?_ ?_ ?_
    · exact Fr.drew _
    · have hD := Fr.drew w6
      conv => whnf
      refine ⟨?_, ?_⟩
      · conv => whnf
        have hs0 := hD.size
        refine EvCall.ret0 (effects_ok _) fun v wF hFf hq => ?_
        obtain ⟨gf, rfl, hrw, hgf⟩ := hq
        conv => whnf
        refine ⟨hD.trans hFf, ?_⟩
        replace hD := hD.trans hFf
        have hs1 := hFf.size
        conv => whnf
        refine ⟨?_, ?_⟩
        · conv => whnf
          refine EvCall.ret0 (sign_ok hrw (by omega) x.n) fun v wS hFs hq => ?_
          obtain ⟨z, rfl, hz0, hz⟩ := signV_R hq
          replace hz := hz.weak hs0
          conv => whnf
          refine ⟨hD.trans hFs, ?_⟩
          replace hD := hD.trans hFs
          have hs2 := hFs.size
          conv => whnf
          conv => whnf
          have hs3 := hD.size
          refine EvNew.blk fun rb wA hrb hzA hFa hB => ?_
          conv => whnf
          refine ⟨hD.trans hFa, ?_⟩
          replace hD := hD.trans hFa
          conv => whnf
          replace hz := hz.fr (S := []) hFa (by simp)
          refine EvDo.storeBlk (vs := z.cells) (cx_ok 0 []) rfl hB rfl rfl (SgV.one hz0) (by simp [rsOf]; omega) fun w' hFw hB' => ?_
          have hD' := hD.trans' hFw (by simp; omega)
          conv => whnf
          refine ⟨hD', ?_⟩
          conv => whnf
          exact ⟨(rb, z), by (refine SubS.mk ?_ ?_ <;> (repeat' (first | exact True.intro | refine And.intro ?_ ?_)) <;> (first | rfl | exact svi (by omega) | exact List.mem_cons_self | exact List.mem_cons_of_mem _ List.mem_cons_self | exact List.mem_cons_of_mem _ (List.mem_cons_of_mem _ List.mem_cons_self) | skip)), hD', hB', by omega, hz.frT hFw hB (by decide)⟩
        · conv => whnf
          have hs3 := hD.size
          refine EvNew.blk fun rb wA hrb hzA hFa hB => ?_
          conv => whnf
          refine ⟨hD.trans hFa, ?_⟩
          replace hD := hD.trans hFa
          conv => whnf
          have hrw' := hrw
          replace hrw := RowsOf.frQ (S := []) (Q := fun _ => True) (fun _ _ h => h.fr hFa (by simp)) hrw (fun _ _ => trivial) hFa (by simp)
          conv => whnf
          refine EvCall.ret0 (sign_ok hrw (by omega) x.n) fun v wS hFs hq => ?_
          obtain ⟨z, rfl, hz0, hz⟩ := signV_R hq
          replace hz := hz.weak hs0
          conv => whnf
          refine ⟨hD.trans hFs, ?_⟩
          replace hD := hD.trans hFs
          have hs2 := hFs.size
          conv => whnf
          replace hB := hB.fr0 hFs
          refine EvDo.storeBlk (vs := z.cells) (cx_ok 0 []) rfl hB rfl rfl (SgV.one hz0) (by simp [rsOf]; omega) fun w' hFw hB' => ?_
          have hD' := hD.trans' hFw (by simp; omega)
          conv => whnf
          refine ⟨hD', ?_⟩
          conv => whnf
          exact ⟨(rb, z), by (refine SubS.mk ?_ ?_ <;> (repeat' (first | exact True.intro | refine And.intro ?_ ?_)) <;> (first | rfl | exact svi (by omega) | exact List.mem_cons_self | exact List.mem_cons_of_mem _ List.mem_cons_self | exact List.mem_cons_of_mem _ (List.mem_cons_of_mem _ List.mem_cons_self) | skip)), hD', hB', by omega, hz.frT hFw hB (by decide)⟩
      · conv => whnf
        have hs3 := hD.size
        refine EvNew.blk fun rb wA hrb hzA hFa hB => ?_
        conv => whnf
        refine ⟨hD.trans hFa, ?_⟩
        replace hD := hD.trans hFa
        conv => whnf
        conv => whnf
        have hs0 := hD.size
        refine EvCall.ret0 (effects_ok _) fun v wF hFf hq => ?_
        obtain ⟨gf, rfl, hrw, hgf⟩ := hq
        conv => whnf
        refine ⟨hD.trans hFf, ?_⟩
        replace hD := hD.trans hFf
        have hs1 := hFf.size
        conv => whnf
        replace hB := hB.fr0 hFf
        conv => whnf
        refine EvCall.ret0 (sign_ok hrw (by omega) x.n) fun v wS hFs hq => ?_
        obtain ⟨z, rfl, hz0, hz⟩ := signV_R hq
        replace hz := hz.weak hs0
        conv => whnf
        refine ⟨hD.trans hFs, ?_⟩
        replace hD := hD.trans hFs
        have hs2 := hFs.size
        conv => whnf
        replace hB := hB.fr0 hFs
        refine EvDo.storeBlk (vs := z.cells) (cx_ok 0 []) rfl hB rfl rfl (SgV.one hz0) (by simp [rsOf]; omega) fun w' hFw hB' => ?_
        have hD' := hD.trans' hFw (by simp; omega)
        conv => whnf
        refine ⟨hD', ?_⟩
        conv => whnf
        exact ⟨(rb, z), by (refine SubS.mk ?_ ?_ <;> (repeat' (first | exact True.intro | refine And.intro ?_ ?_)) <;> (first | rfl | exact svi (by omega) | exact List.mem_cons_self | exact List.mem_cons_of_mem _ List.mem_cons_self | exact List.mem_cons_of_mem _ (List.mem_cons_of_mem _ List.mem_cons_self) | skip)), hD', hB', by omega, hz.frT hFw hB (by decide)⟩
    rintro ⟨rb, nm, Az, nz, tell, fv, ok⟩ w7 ⟨hF7, hz1, hz2, hz3⟩
    have hG7 : Fr [kb] w0 w7 := (hF06.trans hF7).nil
    have hne2 : rb ≠ kb := by have := h6.blk.lt; omega
    have hB27 := hB26.fr0 hF7
    have h7 := h6.fr0 hF7
    conv => whnf
    refine EvLd.blk0 hB27 rfl ?_
    conv => whnf
    refine EvCall.ret (must_ok h7 ok) (by simp [rsOf]) fun v w8 hF8 hq => ?_
    obtain ⟨rfl, h8⟩ := hq
    have hG8 := hG7.trans hF8
    conv => whnf
    rcases hz3.elim with ⟨sg, g, f, z1, rfl, rfl, rfl, rfl, rfl, z7, z8⟩ | ⟨z1, rfl⟩
    rotate_left
    · have hn : R = none := by rw [hM, z1]; rfl
      have hb : (mustL false s).bad = true := by simp [mustL]
      refine EvIf.any (fun b3 => ?_) (fun b3 => ?_)
      · exact absurd b3 (by simp [mustL])
      · conv => whnf
        exact ⟨hG8.mono (by simp), vs, _, h8, .inl rfl, ⟨fun e => (by rw [hbad] at e; cases e), fun _ => (by rw [hn]; exact hb)⟩, hs, by rw [mustL_slots]; omega⟩
    rw [mustL_true] at h8 ⊢
    refine EvIf.any (fun b3 => ?_) (fun b3 => ?_)
    rotate_left
    · rw [hbad] at b3; cases b3
    have hz8 := hz1.fr hF8 (by simpa using hne2)
    have hgk : g ≠ kb := z7.ne_ty h7.blk (by decide)
    have hg8 := z7.fr hF8 (by simpa using hgk)
    have hF68 : Fr [kb] w6 w8 := hF7.nil.trans hF8
    have hB28 := hB27.fr hF8 (by simpa using hn2)
    have hB58 := hB6.fr hF68 (by simpa using hn5)
    have hA4 : ∀ a, A = some a → a.block ≠ kb := fun a ha => by have := hA3 a ha; simp only [List.mem_cons, not_or] at this; exact this.1
    have hA8 : IntsAt w8 A (kidsL t i) := Rows.fr hA6 hF68 fun a ha => by simpa using hA4 a ha
    conv => whnf
    refine EvDraw.go (fun w' => Fr [kb] w8 w') (some 7) (.take 0 true (.take 1 true (.take 2 true (.take 3 true (.take 4 true (.exec 5 (.take 6 true (.exec 7 .done)))))))) (by kernel_rfl) ?_ ?_
    · exact (Fr.drew _).nil
    conv => whnf
    refine ⟨_, fun w' hw => (hB28.fr hw.1 (by simpa using hn2)).cell rfl, ?_⟩
    conv => whnf
    refine ⟨_, fun w' hw => (hB28.fr hw.1 (by simpa using hn2)).cell rfl, ?_⟩
    conv => whnf
    refine ⟨_, fun w' hw => (hB58.fr hw.1 (by simpa using hn5)).cell rfl, ?_⟩
    conv => whnf
    refine ⟨_, rfl, fun w' hw j v hj => (hz8.fr hw.1 (by simpa using hne2)).add0 hj, ?_⟩
    conv => whnf
    have hd := Fr.drew w8
    refine EvCall.ret (call_ok hfo ht ihE (h8.fr0 hd) hs hlb (Rows.fr0 hA8 hd) hA4 hsm (hg8.fr0 hd)) (by simp [rsOf]) fun v w9 hF9 hq => ?_
    obtain ⟨q, rfl, c1, c2, h9, c4⟩ := hq
    conv => whnf
    refine ⟨hd.nil.trans hF9, ?_⟩
    conv => whnf
    refine EvCall.ret (must_ok h9 (decide (q ≤ 256))) (by simp [rsOf]) fun v w10 hF10 hq => ?_
    obtain ⟨rfl, h10⟩ := hq
    rw [mustL_mustL] at h10
    conv => whnf
    refine ⟨(((hG8.trans hd.nil).trans hF9).trans hF10).mono (by simp), _, _, h10, .inl rfl, ⟨fun e => (by rw [hbad] at e; cases e), fun _ => ?_⟩, hs, by rw [mustL_slots]; omega⟩
    rw [hM, z1, Option.bind_some]
    cases hcl : callL sg x ks.heads (exprs s.slots s.seen ks) with
    | none => show (mustL _ s).bad = true; simp [mustL]
    | some qq =>
      obtain rfl := c4 hbad qq hcl
      by_cases hq : qq ≤ 256
      · simp [hq, mustL, hbad]
      · simp [hq, mustL]
  have hM : R = none := by
    rw [← hR]; unfold stepS; rw [if_neg o11, if_neg o12, if_neg o13, if_neg o14, if_neg o15, if_neg o16, if_neg (by omega), if_neg o19]
  conv => whnf
  refine EvLd.blk0 hB26 rfl ?_
  conv => whnf
  refine EvSt.blk h6.blk rfl rfl (by simpa [rsOf] using hn4) fun w7 hF7 hB7 => ?_
  conv => whnf
  exact ⟨(hF06.nil.trans hF7).mono (by simp), vs, _, h6.blk' hF7 hB7, .inl rfl, ⟨fun _ => rfl, fun _ => (by rw [hM])⟩, hs, by show s.slots.length ≤ _; omega⟩
end Go.Proofs.Tab
