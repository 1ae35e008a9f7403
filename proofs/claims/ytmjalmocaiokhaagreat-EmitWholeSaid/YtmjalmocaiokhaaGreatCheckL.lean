/- Package check: the walk of blocks. No condition. -/
import Derived.Test.YtmjalmocaiokhaaGreatCheckB
set_option linter.unusedVariables false
set_option linter.unusedSimpArgs false
set_option maxRecDepth 100000
namespace Go.Proofs.Tab
open Go Go.Fw

structure LInv (t : List Nd) (B kb mr : Nat) (At : Option Addr) (ct : Nat) (vs : Value) (s : Lk) (w0 : World) (i : Nat) (f : Fo) (j : Nat) (vs' : Value) (s' : Lk) (w : World) : Prop where
  le : j ≤ f.len
  fr : Fr (kb :: mr :: vs.ownBlock.toList) w0 w
  lk : LK B kb mr At ct t vs' s' w
  kv : KeptV vs vs' w0
  si : SeenIn s'
  bd : s.bad = true → s'.bad = true
  sem : s.bad = false → blocksL f.heads (sem f) 0 (s.slots, s.seen) = if s'.bad then none else blocksL (f.heads.drop j) ((Tab.sem f).drop j) j (s'.slots, s'.seen)
  b1 : ∀ p, (f.pos i)[j]? = some p → s'.slots.length ≤ 2 + 3 * p
  b2 : s'.slots.length ≤ 2 + 3 * (i + f.size)


set_option maxHeartbeats 4000000 in
theorem blocks_ok {t : List Nd} {f : Fo} {i : Nat} (hf : FoAt t i f) (ht : t.length ≤ 2000) (ihS : ∀ (j p : Nat) y kk, (f.at_ i)[j]? = some (p, y, kk) → Stm t p y kk) (ihB : ∀ (j p : Nat) y kk, (f.at_ i)[j]? = some (p, y, kk) → Blk t p y kk)
    {B kb mr : Nat} {At : Option Addr} {ct : Nat} {vs : Value} {s : Lk} {w0 : World} (h : LK B kb mr At ct t vs s w0) (hs : SeenIn s) (hl : s.slots.length ≤ 2 + 3 * i) (hn : f.len ≤ 2000) {A : Option Addr} {c n : Nat} (hnn : n = f.len)
    (hA : IntsAt w0 A ((f.pos i).map (Int.ofNat ·))) (hA2 : ∀ a, A = some a → a.block ∉ kb :: mr :: vs.ownBlock.toList) :
    Ret Tryz.prog 98 [kp kb, .slice A n c] w0 (kb :: mr :: vs.ownBlock.toList)
      fun v w' => ∃ vs' s', LK B kb mr At ct t vs' s' w' ∧ KeptV vs vs' w0 ∧ Res s (blocksL f.heads (sem f) 0 (s.slots, s.seen)) s' ∧ SeenIn s' ∧ s'.slots.length ≤ 2 + 3 * (i + f.size) := by
  subst hnn
  have hpl : ((f.pos i).map (Int.ofNat ·)).length = f.len := by rw [List.length_map, Fo.pos_length]
  refine fn_go (cx_ok 39 []) wideOrders Tryz.func98 rfl rfl Tryz.call98 (by simp [cx]) ?_; conv => whnf
  refine EvLoop.go (Nat × Value × Lk) (fun (j, _, _) => ⟨[(0, .v (kp kb)), (6, .v (.slice A f.len c)), (7, .v (.int .i64 f.len)), (8, .v (.int .i64 j))], [], 0⟩)
    (fun (j, vs', s') w' => LInv t B kb mr At ct vs s w0 i f j vs' s' w') (fun x => f.len - x.1) (0, vs, s) (by (refine SubS.mk ?_ ?_ <;> (repeat' (first | exact True.intro | refine And.intro ?_ ?_)) <;> (first | rfl | exact svi (by omega) | exact List.mem_cons_self | exact List.mem_cons_of_mem _ List.mem_cons_self | exact List.mem_cons_of_mem _ (List.mem_cons_of_mem _ List.mem_cons_self) | skip))) ?_ ?_
  · refine ⟨by omega, Fr.refl _ _, h, .inl rfl, hs, id, fun e => by rw [e]; rfl, fun p hp => ?_, by omega⟩
    have := (Fo.pos_ge f i 0 p hp).1
    omega
  rintro ⟨j, vs', s'⟩ w' hI
  conv => whnf
  refine EvIf.lt (fun hj => ?_) (fun hj => ?_)
  rotate_left
  · obtain rfl : j = f.len := by have := hI.le; omega
    conv => whnf
    refine ⟨hI.fr, vs', s', hI.lk, hI.kv, ⟨hI.bd, fun e => ?_⟩, hI.si, hI.b2⟩
    rw [hI.sem e, List.drop_eq_nil_of_le (by rw [Fo.heads_length]; omega)]
    cases hb : s'.bad
    · show s' = ⟨s'.slots, s'.seen, false⟩
      rw [← hb]
    · rfl
  have hjl : j < f.len := by omega
  obtain ⟨p, y, kk, r', q1, q2, q3, _, q5, q6⟩ := fo_tree s.slots s.seen hf hjl
  obtain ⟨t1, t2, t3⟩ := fo_sem q1
  obtain ⟨n1, n2, n3⟩ := fo_next q1
  have hplt := q5.lt
  have hpj : ((f.pos i).map (Int.ofNat ·))[j]? = some (p : Int) := by rw [List.getElem?_map, q2]; rfl
  have hAf : IntsAt w' A ((f.pos i).map (Int.ofNat ·)) := Rows.fr hA hI.fr hA2
  conv => whnf
  refine EvIdx.ints hAf (by omega) (by omega) hpl.symm rfl fun aa haa => ?_
  rw [Int.toNat_natCast]
  conv => whnf
  refine EvLd.ints hAf haa hpj ?_
  conv => whnf
  refine EvLd.blk hI.lk.blk rfl ?_
  conv => whnf
  refine EvIf.any (fun c1 => ?_) (fun c1 => ?_)
  · conv => whnf
    refine EvAr.i64 (by omega) ?_; conv => whnf
    refine ⟨(j + 1, vs', s'), by (refine SubS.mk ?_ ?_ <;> (repeat' (first | exact True.intro | refine And.intro ?_ ?_)) <;> (first | rfl | exact svi (by omega) | exact List.mem_cons_self | exact List.mem_cons_of_mem _ List.mem_cons_self | exact List.mem_cons_of_mem _ (List.mem_cons_of_mem _ List.mem_cons_self) | skip)), ⟨hjl, hI.fr, hI.lk, hI.kv, hI.si, hI.bd, fun e => by rw [hI.sem e, if_pos c1, if_pos c1], fun p' hp' => ?_, hI.b2⟩, by dsimp only; omega⟩
    have hj1 : j + 1 < f.len := by have := (List.getElem?_eq_some_iff.1 hp').1; rwa [Fo.pos_length] at this
    rw [n1 hj1] at hp'
    injection hp' with hp'
    have := hI.b1 p q2
    omega
  conv => whnf
  refine EvSplit.eq (fun d1 => ?_) (fun d1 => ?_)
  rotate_left
  · conv => whnf
    refine EvCall.ret (ihB j p y kk q1 hI.lk hI.si (hI.b1 p q2) c1) (by simp [rsOf]) fun v w4 hF4 hq => ?_
    obtain ⟨vs4, s4, h4, kv4, hr4, si4, b4⟩ := hq
    have hfr4 : Fr (kb :: mr :: vs.ownBlock.toList) w0 w4 := hI.fr.trans' hF4 (KeptV.sub hI.kv)
    conv => whnf
    refine EvAr.i64 (by omega) ?_; conv => whnf
    refine ⟨(j + 1, vs4, s4), by (refine SubS.mk ?_ ?_ <;> (repeat' (first | exact True.intro | refine And.intro ?_ ?_)) <;> (first | rfl | exact svi (by omega) | exact List.mem_cons_self | exact List.mem_cons_of_mem _ List.mem_cons_self | exact List.mem_cons_of_mem _ (List.mem_cons_of_mem _ List.mem_cons_self) | skip)), ⟨hjl, hfr4, h4, hI.kv.trans kv4 hI.fr.size, si4, fun e => absurd (hI.bd e) (by rw [c1]; simp), fun e => ?_, fun p' hp' => ?_, by omega⟩, by dsimp only; omega⟩
    · rw [hI.sem e, c1, drop_get t2, drop_get t1]
      show ((if j = 1 ∧ y.op = 13 then stepS y kk.heads (fun q => exprs q.1 q.2 kk) (sem kk) else blockB y kk.heads (sem kk)) (s'.slots, s'.seen)).bind (blocksL (f.heads.drop (j + 1)) ((sem f).drop (j + 1)) (j + 1)) = _
      rw [if_neg (fun e => d1 (by omega))]
      have := hr4.2 c1
      cases hst : blockB y kk.heads (sem kk) (s'.slots, s'.seen) with
      | none => rw [hst] at this; rw [show s4.bad = true from this]; rfl
      | some q => rw [hst] at this; rw [show s4 = ⟨q.1, q.2, false⟩ from this]; rfl
    · have hj1 : j + 1 < f.len := by have := (List.getElem?_eq_some_iff.1 hp').1; rwa [Fo.pos_length] at this
      rw [n1 hj1] at hp'
      injection hp' with hp'
      omega
  conv => whnf
  refine EvLd.blk hI.lk.blk rfl ?_
  conv => whnf
  refine EvIdx.nd hI.lk.tree hplt rfl fun a4 ha4 => ?_
  conv => whnf
  refine EvLd.node hI.lk.tree ha4 hplt rfl ?_
  rw [q5.get]
  conv => whnf
  refine EvIf.eq (fun d2 => ?_) (fun d2 => ?_)
  · conv => whnf
    refine EvCall.ret (ihS j p y kk q1 hI.lk hI.si (hI.b1 p q2) c1) (by simp [rsOf]) fun v w4 hF4 hq => ?_
    obtain ⟨vs4, s4, h4, kv4, hr4, si4, b4⟩ := hq
    have hfr4 : Fr (kb :: mr :: vs.ownBlock.toList) w0 w4 := hI.fr.trans' hF4 (KeptV.sub hI.kv)
    conv => whnf
    refine EvAr.i64 (by omega) ?_; conv => whnf
    refine ⟨(j + 1, vs4, s4), by (refine SubS.mk ?_ ?_ <;> (repeat' (first | exact True.intro | refine And.intro ?_ ?_)) <;> (first | rfl | exact svi (by omega) | exact List.mem_cons_self | exact List.mem_cons_of_mem _ List.mem_cons_self | exact List.mem_cons_of_mem _ (List.mem_cons_of_mem _ List.mem_cons_self) | skip)), ⟨hjl, hfr4, h4, hI.kv.trans kv4 hI.fr.size, si4, fun e => absurd (hI.bd e) (by rw [c1]; simp), fun e => ?_, fun p' hp' => ?_, by omega⟩, by dsimp only; omega⟩
    · rw [hI.sem e, c1, drop_get t2, drop_get t1]
      show ((if j = 1 ∧ y.op = 13 then stepS y kk.heads (fun q => exprs q.1 q.2 kk) (sem kk) else blockB y kk.heads (sem kk)) (s'.slots, s'.seen)).bind (blocksL (f.heads.drop (j + 1)) ((sem f).drop (j + 1)) (j + 1)) = _
      rw [if_pos ⟨by omega, d2⟩]
      have := hr4.2 c1
      cases hst : stepS y kk.heads (fun q => exprs q.1 q.2 kk) (sem kk) (s'.slots, s'.seen) with
      | none => rw [hst] at this; rw [show s4.bad = true from this]; rfl
      | some q => rw [hst] at this; rw [show s4 = ⟨q.1, q.2, false⟩ from this]; rfl
    · have hj1 : j + 1 < f.len := by have := (List.getElem?_eq_some_iff.1 hp').1; rwa [Fo.pos_length] at this
      rw [n1 hj1] at hp'
      injection hp' with hp'
      omega
  · conv => whnf
    refine EvCall.ret (ihB j p y kk q1 hI.lk hI.si (hI.b1 p q2) c1) (by simp [rsOf]) fun v w4 hF4 hq => ?_
    obtain ⟨vs4, s4, h4, kv4, hr4, si4, b4⟩ := hq
    have hfr4 : Fr (kb :: mr :: vs.ownBlock.toList) w0 w4 := hI.fr.trans' hF4 (KeptV.sub hI.kv)
    conv => whnf
    refine EvAr.i64 (by omega) ?_; conv => whnf
    refine ⟨(j + 1, vs4, s4), by (refine SubS.mk ?_ ?_ <;> (repeat' (first | exact True.intro | refine And.intro ?_ ?_)) <;> (first | rfl | exact svi (by omega) | exact List.mem_cons_self | exact List.mem_cons_of_mem _ List.mem_cons_self | exact List.mem_cons_of_mem _ (List.mem_cons_of_mem _ List.mem_cons_self) | skip)), ⟨hjl, hfr4, h4, hI.kv.trans kv4 hI.fr.size, si4, fun e => absurd (hI.bd e) (by rw [c1]; simp), fun e => ?_, fun p' hp' => ?_, by omega⟩, by dsimp only; omega⟩
    · rw [hI.sem e, c1, drop_get t2, drop_get t1]
      show ((if j = 1 ∧ y.op = 13 then stepS y kk.heads (fun q => exprs q.1 q.2 kk) (sem kk) else blockB y kk.heads (sem kk)) (s'.slots, s'.seen)).bind (blocksL (f.heads.drop (j + 1)) ((sem f).drop (j + 1)) (j + 1)) = _
      rw [if_neg (fun e => d2 e.2)]
      have := hr4.2 c1
      cases hst : blockB y kk.heads (sem kk) (s'.slots, s'.seen) with
      | none => rw [hst] at this; rw [show s4.bad = true from this]; rfl
      | some q => rw [hst] at this; rw [show s4 = ⟨q.1, q.2, false⟩ from this]; rfl
    · have hj1 : j + 1 < f.len := by have := (List.getElem?_eq_some_iff.1 hp').1; rwa [Fo.pos_length] at this
      rw [n1 hj1] at hp'
      injection hp' with hp'
      omega
end Go.Proofs.Tab
