/- Package check: the walk of block. No condition. -/
import Derived.Test.YtmjalmocaiokhaaGreatCheckT
set_option linter.unusedVariables false
set_option linter.unusedSimpArgs false
set_option maxRecDepth 100000
namespace Go.Proofs.Tab
open Go Go.Fw

theorem own_ne_own {w : World} {T T' sz sz' n n' : Nat} {v v' : Value} {xs xs' : List Value} (h : Own w T sz v n xs) (h' : Own w T' sz' v' n' xs') (hT : T ≠ T') {b : Nat} (hb : v.ownBlock = some b) : v'.ownBlock ≠ some b := by
  intro e
  rcases h.2 with ⟨rfl, _⟩ | ⟨g, cap, cur, rfl, _, h4, _⟩
  · cases hb
  · rcases h'.2 with ⟨rfl, _⟩ | ⟨g', cap', cur', rfl, _, h4', _⟩
    · cases e
    · have e1 : g = b := by injection hb
      have e2 : g' = b := by injection e
      subst e1; subst e2
      rw [h4] at h4'
      injection h4' with h4'
      injection h4' with _ h5
      exact hT h5
theorem KeptV.trans {v v' v'' : Value} {w w' : World} (h : KeptV v v' w) (h' : KeptV v' v'' w') (hs : w.heap.size ≤ w'.heap.size) : KeptV v v'' w := by
  rcases h' with e | e
  · rcases h with e' | e'
    · exact .inl (e.trans e')
    · exact .inr fun b hb => e' b (e ▸ hb)
  · exact .inr fun b hb => Nat.le_trans hs (e b hb)
theorem KeptV.sub {v v' : Value} {w : World} {kb mr : Nat} (h : KeptV v v' w) : ∀ x ∈ kb :: mr :: v'.ownBlock.toList, x < w.heap.size → x ∈ kb :: mr :: v.ownBlock.toList := by
  intro x hx hlt
  simp only [List.mem_cons] at hx ⊢
  rcases hx with e | e | e
  · exact .inl e
  · exact .inr (.inl e)
  · rcases h with e' | e'
    · rw [e'] at e; exact .inr (.inr e)
    · have := e' x (toList_some.1 e); omega

theorem LK.del {t : List Nd} {B kb mr : Nat} {At : Option Addr} {ct : Nat} {vs : Value} {s : Lk} {w w' : World} (h : LK B kb mr At ct t vs s w) (hf : Fr [mr] w w') {se : Int → Option Bool}
    (hM : HM w' mr (fun n => Value.int .i64 n) seenR se) : LK B kb mr At ct t vs ⟨s.slots, se, s.bad⟩ w' := by
  have h1 := h.map.ne_cells h.blk
  have h2 := own_ne_map h.own h.map
  exact ⟨h.blk.fr hf (by simpa using h1.symm), Rows.frQ h.tree h.low hf fun b hb => (by have := h.hm; simp; omega), h.low, h.own.fr hf (fun b hb hm => h2 (by simp at hm; rw [← hm]; exact hb)), hM, h.hk, h.hm, h.hv⟩
theorem delsL_fst (l : List Int) : ∀ q : St2, (delsL l q).1 = q.1 := by
  induction l with
  | nil => intro q; rfl
  | cons a l ih => intro q; exact (ih (delL a q)).trans rfl
theorem delsL_snd (l : List Int) : ∀ (q : St2) (k : Int) (b : Bool), (delsL l q).2 k = some b → q.2 k = some b := by
  induction l with
  | nil => intro q k b h; exact h
  | cons a l ih =>
    intro q k b h
    have := ih (delL a q) k b h
    by_cases hk : k = a
    · subst hk; rw [show (delL k q).2 k = none from setF_self _ _ _] at this; cases this
    · rwa [show (delL a q).2 k = q.2 k from setF_ne _ _ hk] at this
theorem delsL_take {l : List Int} {k : Nat} {a : Int} (h : l[k]? = some a) (q : St2) : delsL (l.take (k + 1)) q = delL a (delsL (l.take k) q) := by
  obtain ⟨e1, e2⟩ := List.getElem?_eq_some_iff.1 h
  rw [List.take_succ_eq_append_getElem e1, e2]
  unfold delsL
  rw [List.foldl_append]
  rfl

structure BInv (t : List Nd) (B kb mr : Nat) (At : Option Addr) (ct : Nat) (vs : Value) (s : Lk) (w2 : World) (i : Nat) (ks : Fo) (j : Nat) (ov : Value) (vs' : Value) (s' : Lk) (w : World) : Prop where
  le : j ≤ ks.len
  fr : Fr (kb :: mr :: vs.ownBlock.toList) w2 w
  lk : LK B kb mr At ct t vs' s' w
  kv : KeptV vs vs' w2
  si : SeenIn s'
  own : Own w 3 1 ov (ownL (ks.heads.take j)).length ((ownL (ks.heads.take j)).map fun n => .int .i64 n)
  ob : ∀ b, ov.ownBlock = some b → w2.heap.size ≤ b
  sem : stmtsL ks.heads (sem ks) (s.slots, s.seen) = if s'.bad then none else stmtsL (ks.heads.drop j) ((Tab.sem ks).drop j) (s'.slots, s'.seen)
  b1 : ∀ p, (ks.pos (i + 1))[j]? = some p → s'.slots.length ≤ 2 + 3 * p
  b2 : s'.slots.length ≤ 2 + 3 * (i + 1 + ks.size)

set_option maxHeartbeats 4000000 in
theorem block_step {t : List Nd} {i : Nat} {x : Nd} {ks r : Fo} (hfo : FoAt t i (.cons x ks r)) (ht : t.length ≤ 2000) (ih : ∀ (j p : Nat) y kk, (ks.at_ (i + 1))[j]? = some (p, y, kk) → Stm t p y kk) : Blk t i x ks := by
  intro B kb mr At ct vs s w0 h hs hl hbad
  have hlt := hfo.lt
  have hget := hfo.get
  have hkl : (kidsL t i).length = ks.len := by rw [kidsL_fo hfo, List.length_map, Fo.pos_length]
  refine fn_go (cx_ok 78 []) wideOrders Tryz.func36 rfl rfl Tryz.call36 (by simp [cx]) ?_; conv => whnf
  refine EvLd.blk h.blk rfl ?_
  conv => whnf
  refine EvIdx.nd h.tree hlt rfl fun a ha => ?_
  conv => whnf
  refine EvLd.node h.tree ha hlt rfl ?_
  rw [hget]
  conv => whnf
  refine EvCall.ret (must_ok h (x.op == 10)) (by simp [rsOf]) fun v w1 hF1 hq => ?_
  obtain ⟨rfl, h1⟩ := hq
  conv => whnf
  have hsub : ∀ {w w'}, Fr [kb] w w' → Fr (kb :: mr :: vs.ownBlock.toList) w w' := fun h => h.mono (by simp)
  refine EvSplit.any (fun b1 => ?_) (fun b1 => ?_)
  · have hn : blockB x ks.heads (sem ks) (s.slots, s.seen) = none := by
      have : (mustL (x.op == 10) s).bad = true := by simpa using b1
      cases hc : x.op == 10
      · unfold blockB; rw [hc]; rfl
      · rw [hc, mustL_true, hbad] at this; cases this
    conv => whnf
    exact ⟨hsub hF1, vs, _, h1, .inl rfl, ⟨fun e => (by rw [hbad] at e; cases e), fun _ => (by rw [hn]; simpa using b1)⟩, hs, by rw [mustL_slots]; omega⟩
  obtain ⟨_, hop⟩ := mustL_ok (show (mustL (x.op == 10) s).bad = false by simpa using b1)
  rw [hop, mustL_true] at h1
  conv => whnf
  refine EvCall.ret (like_ok h1 hlt 0 0 0) (by simp [rsOf]) fun v w2 hF2 hq => ?_
  rw [hget] at hq
  obtain ⟨rfl, h2⟩ := hq
  have hG2 := hF1.trans hF2
  conv => whnf
  refine EvIf.any (fun b2 => ?_) (fun b2 => ?_)
  · have hn : blockB x ks.heads (sem ks) (s.slots, s.seen) = none := by
      have : (mustL (likeB x 0 0 0) s).bad = true := by simpa using b2
      cases hc : likeB x 0 0 0
      · unfold blockB; rw [hc]; simp
      · rw [hc, mustL_true, hbad] at this; cases this
    conv => whnf
    exact ⟨hsub hG2, vs, _, h2, .inl rfl, ⟨fun e => (by rw [hbad] at e; cases e), fun _ => (by rw [hn]; simpa using b2)⟩, hs, by rw [mustL_slots]; omega⟩
  obtain ⟨_, hlk⟩ := mustL_ok (show (mustL (likeB x 0 0 0) s).bad = false by simpa using b2)
  rw [hlk, mustL_true] at h2
  have hbk : blockB x ks.heads (sem ks) (s.slots, s.seen) = (stmtsL ks.heads (sem ks) (s.slots, s.seen)).map (delsL (ownL ks.heads)) := by
    unfold blockB; rw [hop, hlk]; rfl
  rw [hbk]
  conv => whnf
  refine EvLd.blk h2.blk rfl ?_
  conv => whnf
  refine EvCall.ret0 (kids_ok At ct t i w2 h2.tree (by omega) (by omega) (by omega)) fun v w3 hF3 hq => ?_
  obtain ⟨A, c, rfl, hA, hA2⟩ := hq
  have h3 := h2.fr0 hF3
  have hG3 := hG2.trans hF3.nil
  conv => whnf
  refine EvLoop.meet (Nat × Value × Value × Lk) (fun (j, ov, _, _) => ⟨[(0, .v (kp kb)), (4, .v ov), (32, .v (.slice A (kidsL t i).length c)), (33, .v (.int .i64 (kidsL t i).length)), (34, .v (.int .i64 j))], [], 0⟩)
    (fun (j, ov, vs', s') w' => BInv t B kb mr At ct vs s w3 i ks j ov vs' s' w') (fun x => ks.len - x.1) (0, .slice none 0 0, vs, s)
    (Value × Value × Lk) (.exit 0) (fun (ov, _, _) => ⟨[(0, .v (kp kb)), (4, .v ov)], [], 0⟩) (fun (ov, vs', s') w' => BInv t B kb mr At ct vs s w3 i ks ks.len ov vs' s' w') (by (refine SubS.mk ?_ ?_ <;> (repeat' (first | exact True.intro | refine And.intro ?_ ?_)) <;> (first | rfl | exact svi (by omega) | exact List.mem_cons_self | exact List.mem_cons_of_mem _ List.mem_cons_self | exact List.mem_cons_of_mem _ (List.mem_cons_of_mem _ List.mem_cons_self) | skip))) ?_ ?_ ?_
  · refine ⟨by omega, Fr.refl _ _, h3, .inl rfl, hs, Own.nil, by simp [Value.ownBlock], by rw [hbad]; rfl, fun p hp => ?_, by omega⟩
    have := (Fo.pos_ge ks (i + 1) 0 p hp).1
    omega
  · rintro ⟨j, ov, vs', s'⟩ w' hI
    conv => whnf
    refine EvIf.lt (fun hj => ?_) (fun hj => ?_)
    rotate_left
    · obtain rfl : j = ks.len := by have := hI.le; omega
      conv => whnf
      exact Meet.at_ (ov, vs', s') (by (refine SubS.mk ?_ ?_ <;> (repeat' (first | exact True.intro | refine And.intro ?_ ?_)) <;> (first | rfl | exact svi (by omega) | exact List.mem_cons_self | exact List.mem_cons_of_mem _ List.mem_cons_self | exact List.mem_cons_of_mem _ (List.mem_cons_of_mem _ List.mem_cons_self) | skip))) hI
    have hjl : j < ks.len := by omega
    obtain ⟨p, y, kk, r', q1, q2, q3, _, q5, q6⟩ := fo_tree s.slots s.seen hfo.2.2.1 hjl
    obtain ⟨t1, t2, t3⟩ := fo_sem q1
    obtain ⟨n1, n2, n3⟩ := fo_next q1
    have hplt := q5.lt
    have hpj : (kidsL t i)[j]? = some (p : Int) := by rw [kidsL_fo hfo, List.getElem?_map, q2]; rfl
    have hkv := hI.kv
    have hAf : ∀ w'', Fr (kb :: mr :: vs.ownBlock.toList) w3 w'' → IntsAt w'' A (kidsL t i) := fun w'' hf => Rows.fr hA hf fun a ha => by
      have e1 := hA2 a ha
      have e2 := h2.blk.lt
      have e3 := h2.map.lt
      simp only [List.mem_cons, not_or]
      refine ⟨by omega, by omega, fun hm => ?_⟩
      have := h2.own.lt (toList_some.1 hm); omega
    conv => whnf
    refine EvIdx.ints (hAf _ hI.fr) (by omega) (by omega) rfl rfl fun aa haa => ?_
    rw [Int.toNat_natCast]
    conv => whnf
    refine EvLd.ints (hAf _ hI.fr) haa hpj ?_
    conv => whnf
    refine EvLd.blk hI.lk.blk rfl ?_
    conv => whnf
    refine EvIf.any (fun c1 => ?_) (fun c1 => ?_)
    · conv => whnf
      refine Meet.go ?_
      conv => whnf
      refine ⟨(hsub hG3).trans hI.fr, vs', s', hI.lk, KeptV.trans (.inl rfl) hkv hG3.size, ⟨fun _ => c1, fun _ => ?_⟩, hI.si, hI.b2⟩
      rw [hI.sem, if_pos c1]
      exact c1
    conv => whnf
    have hstm : Stm t p y kk := ih j p y kk q1
    refine EvCall.ret (hstm hI.lk hI.si (hI.b1 p q2) c1) (by simp [rsOf]) fun v w4 hF4 hq => ?_
    obtain ⟨vs4, s4, h4, kv4, hr4, si4, b4⟩ := hq
    have hs3 := hI.fr.size
    have hI4 : BInv t B kb mr At ct vs s w3 i ks j ov vs' s' w' := hI
    have hfr4 : Fr (kb :: mr :: vs.ownBlock.toList) w3 w4 := hI.fr.trans' hF4 (KeptV.sub hkv)
    have kv3 : KeptV vs vs4 w3 := hkv.trans kv4 hs3
    have hown4 : Own w4 3 1 ov (ownL (ks.heads.take j)).length ((ownL (ks.heads.take j)).map fun n => .int .i64 n) := hI.own.fr hF4 fun b hb hm => by
      have o1 := own_ne_blk hI.own hI.lk.blk (by decide)
      have o2 := own_ne_map hI.own hI.lk.map
      have o3 := own_ne_own hI.own hI.lk.own (by decide) hb
      simp only [List.mem_cons] at hm
      rcases hm with rfl | rfl | hm
      · exact o1 hb
      · exact o2 hb
      · exact o3 (toList_some.1 hm)
    have hsem4 : stmtsL ks.heads (sem ks) (s.slots, s.seen) = if s4.bad then none else stmtsL (ks.heads.drop (j + 1)) ((sem ks).drop (j + 1)) (s4.slots, s4.seen) := by
      rw [hI.sem, c1, drop_get t2, drop_get t1]
      show (stepS y kk.heads (fun q => exprs q.1 q.2 kk) (sem kk) (s'.slots, s'.seen)).bind (stmtsL (ks.heads.drop (j + 1)) ((sem ks).drop (j + 1))) = _
      have := hr4.2 c1
      cases hst : stepS y kk.heads (fun q => exprs q.1 q.2 kk) (sem kk) (s'.slots, s'.seen) with
      | none => rw [hst] at this; rw [show s4.bad = true from this]; rfl
      | some q => rw [hst] at this; rw [show s4 = ⟨q.1, q.2, false⟩ from this]; rfl
    have hb14 : ∀ p', (ks.pos (i + 1))[j + 1]? = some p' → s4.slots.length ≤ 2 + 3 * p' := fun p' hp' => by
      have hj1 : j + 1 < ks.len := by have := (List.getElem?_eq_some_iff.1 hp').1; rwa [Fo.pos_length] at this
      rw [n1 hj1] at hp'
      injection hp' with hp'
      omega
    have htk : ks.heads.take (j + 1) = ks.heads.take j ++ [y] := by
      obtain ⟨e1, e2⟩ := List.getElem?_eq_some_iff.1 t2
      rw [List.take_succ_eq_append_getElem e1, e2]
    conv => whnf
    refine EvLd.blk h4.blk rfl ?_
    conv => whnf
    refine EvIdx.nd h4.tree hplt rfl fun a4 ha4 => ?_
    conv => whnf
    refine EvLd.node h4.tree ha4 hplt rfl ?_
    rw [q5.get]
    conv => whnf
    refine EvIf.eq (fun d1 => ?_) (fun d1 => ?_)
    · have hoL : ownL (ks.heads.take (j + 1)) = ownL (ks.heads.take j) ++ [y.n] := by
        rw [htk]; unfold ownL; rw [List.filter_append, List.map_append]; simp [d1]
      conv => whnf
      refine EvLd.blk h4.blk rfl ?_
      conv => whnf
      refine EvIdx.nd h4.tree hplt rfl fun a5 ha5 => ?_
      conv => whnf
      refine EvLd.node h4.tree ha5 hplt rfl ?_
      rw [q5.get]
      conv => whnf
      refine EvNew.blk fun gl w5 hgl hz5 hF5 hB5 => ?_
      conv => whnf
      have hlen : (ownL (ks.heads.take j)).length ≤ 2000 := by
        unfold ownL
        rw [List.length_map]
        have := List.length_filter_le (fun x : Nd => x.op == 11) (ks.heads.take j)
        have := FoAt.le hfo.2.2.1 (by omega)
        have := ks.len_le_size
        rw [List.length_take] at *
        omega
      refine EvApp.lit (cx_ok 0 []) rfl (⟨rfl, rfl, rfl, rfl⟩ : El (cx 0 []) 3 1 8 [.int .i64 0]) (by omega) rfl (hown4.fr0 hF5) (m := 1) hB5 rfl (by simp [Value.oneCell']) (by omega) (by simp [maxLen]; omega) (by simp [rsOf]) fun ov' w6 hO6 hF6 hat => ?_
      have o1 := own_ne_blk hown4 h4.blk (by decide)
      have o2 := own_ne_map hown4 h4.map
      have hkb3 := h3.blk.lt
      have h6 : LK B kb mr At ct t vs4 s4 w6 := (h4.fr0 hF5).fr hF6 (fun hm => o1 (toList_some.1 hm)) (fun hm => o2 (toList_some.1 hm)) (fun b hb hm => own_ne_own hown4 h4.own (by decide) (toList_some.1 hm) hb)
        (fun b hb hm => by have := hI.ob b (toList_some.1 hm); have := hI.lk.hk; omega)
      have hfr6 : Fr (kb :: mr :: vs.ownBlock.toList) w3 w6 := (hfr4.trans hF5.nil).trans' hF6 (fun x hx hlt => by have := hI.ob x (toList_some.1 hx); omega)
      have hs4 := hfr4.size
      have hs5 := hF5.size
      conv => whnf
      refine EvAr.i64 (by omega) ?_; conv => whnf
      refine ⟨(j + 1, ov', vs4, s4), by (refine SubS.mk ?_ ?_ <;> (repeat' (first | exact True.intro | refine And.intro ?_ ?_)) <;> (first | rfl | exact svi (by omega) | exact List.mem_cons_self | exact List.mem_cons_of_mem _ List.mem_cons_self | exact List.mem_cons_of_mem _ (List.mem_cons_of_mem _ List.mem_cons_self) | skip)), ⟨hjl, hfr6, h6, kv3, si4, ?_, fun b hb => ?_, hsem4, hb14, by omega⟩, by dsimp only; omega⟩
      · rw [hoL, List.length_append, List.map_append]; exact hO6
      · rcases hat with e | e
        · exact hI.ob b (e ▸ hb)
        · rw [e] at hb; injection hb with hb; omega
    · have hoL : ownL (ks.heads.take (j + 1)) = ownL (ks.heads.take j) := by
        rw [htk]; unfold ownL; rw [List.filter_append, List.map_append]; simp [d1]
      conv => whnf
      refine EvAr.i64 (by omega) ?_; conv => whnf
      refine ⟨(j + 1, ov, vs4, s4), by (refine SubS.mk ?_ ?_ <;> (repeat' (first | exact True.intro | refine And.intro ?_ ?_)) <;> (first | rfl | exact svi (by omega) | exact List.mem_cons_self | exact List.mem_cons_of_mem _ List.mem_cons_self | exact List.mem_cons_of_mem _ (List.mem_cons_of_mem _ List.mem_cons_self) | skip)), ⟨hjl, hfr4, h4, kv3, si4, by rw [hoL]; exact hown4, hI.ob, hsem4, hb14, by omega⟩, by dsimp only; omega⟩
  · rintro ⟨ov, vs', s'⟩ w' hI
    obtain ⟨Ao, co, rfl, hco, hAo, _⟩ := hI.own.form
    obtain ⟨_, _, e1, hIo⟩ := hI.own.ints
    have hlen : (ownL ks.heads).length ≤ 2000 := by
      unfold ownL
      rw [List.length_map]
      have h1 := List.length_filter_le (fun x : Nd => x.op == 11) ks.heads
      have h2 := FoAt.le hfo.2.2.1 (by omega)
      have h3 := ks.len_le_size
      rw [Fo.heads_length] at h1
      omega
    have htk : ks.heads.take ks.len = ks.heads := List.take_of_length_le (by rw [Fo.heads_length]; omega)
    rw [htk] at hIo e1 ⊢
    generalize hL : ownL ks.heads = L at hIo hlen e1 ⊢
    injection e1 with e1 _ e3
    subst e1
    have hob := hI.ob
    conv => whnf
    refine EvLoop.go Nat (fun k => ⟨[(0, .v (kp kb)), (66, .v (.slice Ao L.length co)), (67, .v (.int .i64 L.length)), (68, .v (.int .i64 k))], [], 0⟩)
      (fun k w'' => k ≤ L.length ∧ Fr (kb :: mr :: vs.ownBlock.toList) w3 w'' ∧ LK B kb mr At ct t vs' ⟨s'.slots, (delsL (L.take k) (s'.slots, s'.seen)).2, s'.bad⟩ w'' ∧ IntsAt w'' Ao L) (fun k => L.length - k) 0 (by (refine SubS.mk ?_ ?_ <;> (repeat' (first | exact True.intro | refine And.intro ?_ ?_)) <;> (first | rfl | exact svi (by omega) | exact List.mem_cons_self | exact List.mem_cons_of_mem _ List.mem_cons_self | exact List.mem_cons_of_mem _ (List.mem_cons_of_mem _ List.mem_cons_self) | skip))) ⟨by omega, hI.fr, hI.lk, hIo⟩ ?_
    rintro k w'' ⟨hk, hfk, hlkk, hik⟩
    conv => whnf
    refine EvIf.lt (fun hkl2 => ?_) (fun hkl2 => ?_)
    · have hkL : k < L.length := by omega
      have hget2 : L[k]? = some L[k] := List.getElem?_eq_getElem hkL
      conv => whnf
      refine EvIdx.ints hik (by omega) (by omega) rfl rfl fun ak hak => ?_
      rw [Int.toNat_natCast]
      conv => whnf
      refine EvLd.ints hik hak hget2 ?_
      conv => whnf
      refine EvLd.blk hlkk.blk rfl ?_
      conv => whnf
      refine EvPrim.del (cx_ok 0 []) rfl (KeyCls.int rfl) (Ky.int .i64) hlkk.map L[k] (by simp [rsOf]) fun w5 hF5 hM5 => ?_
      conv => whnf
      refine EvAr.i64 (by omega) ?_; conv => whnf
      refine ⟨k + 1, by (refine SubS.mk ?_ ?_ <;> (repeat' (first | exact True.intro | refine And.intro ?_ ?_)) <;> (first | rfl | exact svi (by omega) | exact List.mem_cons_self | exact List.mem_cons_of_mem _ List.mem_cons_self | exact List.mem_cons_of_mem _ (List.mem_cons_of_mem _ List.mem_cons_self) | skip)), ⟨hkL, hfk.trans (hF5.mono (by simp)), ?_, ?_⟩, by omega⟩
      · rw [delsL_take hget2]
        exact hlkk.del hF5 hM5
      · refine Rows.fr hik hF5 fun a ha hm => ?_
        simp at hm
        have := h3.map.lt
        have := hob a.block (by rw [ha]; rfl)
        omega
    · obtain rfl : k = L.length := by omega
      rw [List.take_length] at hlkk
      conv => whnf
      refine ⟨(hsub hG3).trans hfk, vs', _, hlkk, KeptV.trans (.inl rfl) hI.kv hG3.size, ⟨fun e => (by rw [hbad] at e; cases e), fun _ => ?_⟩, fun k b hk => ?_, hI.b2⟩
      · rw [hI.sem]
        cases hb : s'.bad
        · rw [List.drop_eq_nil_of_le (by rw [Fo.heads_length]; omega)]
          show (⟨s'.slots, (delsL L (s'.slots, s'.seen)).2, false⟩ : Lk) = ⟨(delsL L (s'.slots, s'.seen)).1, (delsL L (s'.slots, s'.seen)).2, false⟩
          rw [delsL_fst]
        · rfl
      · exact hI.si k b (delsL_snd L _ k b hk)
end Go.Proofs.Tab
