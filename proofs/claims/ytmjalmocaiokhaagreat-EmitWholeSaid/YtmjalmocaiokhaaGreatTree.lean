/- Package tree: the walks of Behind, ends, Kids. No condition. -/
import Derived.Test.YtmjalmocaiokhaaGreatTreeS
import Derived.Test.YtmjalmocaiokhaaGreatFwK
import Derived.Test.YtmjalmocaiokhaaGreatTab
set_option linter.unusedVariables false
set_option linter.unusedSimpArgs false
set_option pp.deepTerms.threshold 3
set_option pp.maxSteps 600
namespace Go.Proofs.Tab
open Go Go.Fw
noncomputable def cx (n : Nat) (esc : List Nat) : Ctx := ⟨ty, n, esc⟩
theorem cx_ok (n : Nat) (esc : List Nat) : COk (cx n esc) Tryz.prog := fun t h => tok_of_chk (ty_ok t) h

theorem behind_ok (A : Option Addr) (c : Nat) (t : List Nd) (i : Int) (w : World) (ht : NodesAt w A t) (hl : t.length ≤ 1073741824) (hi : -9223372036854775808 ≤ i) :
    Ret Tryz.prog 34 [.slice A t.length c, .int .i64 i] w [] fun v w' => v = .int .i64 (behind t i) ∧ w' = w := by
  refine fn_go (cx_ok 49 []) wideOrders Tryz.func34 rfl rfl Tryz.call34 (by simp [cx]) ?_; conv => whnf
  refine EvSplit.lt (fun h1 => ?_) (fun h1 => ?_)
  · conv => whnf
    refine ⟨Fr.refl _ _, ?_, rfl⟩
    simp [behind, h1, tupX]
  conv => whnf
  refine EvIf.ge (fun h2 => ?_) (fun h2 => ?_)
  · conv => whnf
    refine ⟨Fr.refl _ _, ?_, rfl⟩
    simp only [behind, if_pos (Or.inr h2), tupX]
  conv => whnf
  obtain ⟨R, hR⟩ : ∃ R, skip t.length i.toNat 1 (t.drop i.toNat) = R := ⟨_, rfl⟩
  have hb : behind t i = optI R := by unfold behind; rw [if_neg (by omega), hR]
  refine EvLoop.go (Nat × Int) (fun x => ⟨[(0, .v (.slice A t.length c)), (1, .v (.int .i64 (x.1 : Int))), (5, .v (.int .i64 x.2))], [], 0⟩)
    (fun x w' => w' = w ∧ x.1 ≤ t.length ∧ x.2 ≤ 1 + x.1 * 1073741824 ∧ 0 ≤ x.2 ∧ skip t.length x.1 x.2 (t.drop x.1) = R) (fun x => t.length - x.1) (i.toNat, 1) ?_ ?_ ?_
  · (refine SubS.mk ?_ ?_ <;> (repeat' (first | exact True.intro | refine And.intro ?_ ?_)) <;> (first | rfl | exact svi (by omega) | exact List.mem_cons_self | exact List.mem_cons_of_mem _ List.mem_cons_self | exact List.mem_cons_of_mem _ (List.mem_cons_of_mem _ List.mem_cons_self) | skip))
  · exact ⟨rfl, by dsimp only; omega, by dsimp only; omega, by dsimp only; omega, hR⟩
  · rintro ⟨k, left⟩ w' ⟨rfl, g1, g2, g3, g4⟩
    dsimp only at *
    conv => whnf
    refine EvIf.gt (fun h3 => ?_) (fun h3 => ?_)
    · conv => whnf
      refine EvSplit.ge (fun h4 => ?_) (fun h4 => ?_)
      · conv => whnf
        refine ⟨Fr.refl _ _, ?_, rfl⟩
        rw [List.drop_eq_nil_of_le (by omega), skip_nil _ _ _ h3] at g4
        rw [hb, ← g4]
        rfl
      have hk : k < t.length := by omega
      rw [List.drop_eq_getElem_cons hk] at g4
      unfold skip at g4
      rw [if_neg (by omega)] at g4
      dsimp only at g4
      conv => whnf
      refine EvIdx.node ht (by omega) h4 rfl fun a ha => ?_
      rw [Int.toNat_natCast]
      conv => whnf
      refine EvLd.node ht ha hk rfl ?_
      conv => whnf
      refine EvSplit.lt (fun h5 => ?_) (fun h5 => ?_)
      · conv => whnf
        refine ⟨Fr.refl _ _, ?_, rfl⟩
        rw [if_pos (.inl h5)] at g4
        rw [hb, ← g4]
        rfl
      conv => whnf
      refine EvIdx.node ht (by omega) h4 rfl fun a ha => ?_
      rw [Int.toNat_natCast]
      conv => whnf
      refine EvLd.node ht ha hk rfl ?_
      conv => whnf
      refine EvIf.gt (fun h6 => ?_) (fun h6 => ?_)
      · conv => whnf
        refine ⟨Fr.refl _ _, ?_, rfl⟩
        rw [if_pos (.inr h6)] at g4
        rw [hb, ← g4]
        rfl
      rw [if_neg (by omega)] at g4
      conv => whnf
      refine EvIdx.node ht (by omega) h4 rfl fun a ha => ?_
      rw [Int.toNat_natCast]
      conv => whnf
      refine EvLd.node ht ha hk rfl ?_
      conv => whnf
      refine EvAr.i64 (by omega) ?_; conv => whnf
      refine EvAr.i64 (by omega) ?_; conv => whnf
      refine EvAr.i64 (by omega) ?_; conv => whnf
      refine ⟨(k + 1, left + (t[k].kids - 1)), ?_, ⟨rfl, by dsimp only; omega, by dsimp only; omega, by dsimp only; omega, g4⟩, by dsimp only; omega⟩
      (refine SubS.mk ?_ ?_ <;> (repeat' (first | exact True.intro | refine And.intro ?_ ?_)) <;> (first | rfl | exact svi (by omega) | exact List.mem_cons_self | exact List.mem_cons_of_mem _ List.mem_cons_self | exact List.mem_cons_of_mem _ (List.mem_cons_of_mem _ List.mem_cons_self) | skip))
    · conv => whnf
      refine ⟨Fr.refl _ _, ?_, rfl⟩
      unfold skip at g4
      rw [if_pos h3] at g4
      rw [hb, ← g4]
      rfl

def iv (n : Int) : Value := .int .i64 n

theorem ends_row {t : List Nd} {k : Nat} (hk : k < t.length) (x : Int) (hx : x = optI (endO t k)) :
    ((List.replicate (k + 1) (0 : Int) ++ (endsL t).drop (k + 1)).map iv).set k (iv x) = (List.replicate k (0 : Int) ++ (endsL t).drop k).map iv := by
  subst hx
  have e : (endsL t).drop k = optI (endO t k) :: (endsL t).drop (k + 1) := by
    rw [List.drop_eq_getElem_cons (by rw [endsL_length]; exact hk)]
    congr 1
    simp [endsL]
  rw [e, List.replicate_succ', List.append_assoc, List.map_append, List.map_append, List.set_append_right _ _ (by simp)]
  simp [iv]

theorem ends_read {t : List Nd} {k p : Nat} (hp : p < t.length) (hkp : k < p) :
    ((List.replicate (k + 1) (0 : Int) ++ (endsL t).drop (k + 1)).map iv)[p]? = some (iv (optI (endO t p))) := by
  rw [List.getElem?_map, List.getElem?_append_right (by simp; omega)]
  simp only [List.length_replicate, List.getElem?_drop]
  rw [show k + 1 + (p - (k + 1)) = p by omega, endsL_get hp]
  rfl

theorem ends_ok (A : Option Addr) (c : Nat) (t : List Nd) (w : World) (ht : NodesAt w A t) (hl : t.length ≤ 1073741824) :
    Ret Tryz.prog 94 [.slice A t.length c] w [] fun v w' => ∃ g, v = .slice (some ⟨g, 0, none⟩) t.length t.length ∧ w.heap.size ≤ g ∧ HB w' g 3 ((endsL t).map iv) := by
  refine fn_go (cx_ok 61 []) wideOrders Tryz.func94 rfl rfl Tryz.call94 (by simp [cx]) ?_; conv => whnf
  refine EvMake.one (cx_ok 0 []) rfl (⟨rfl, rfl, rfl, rfl⟩ : El (cx 0 []) 3 1 8 [.int .i64 0]) (by omega) (by simp [maxLen]; omega) fun g w1 hg hz hF1 hB1 => ?_
  conv => whnf
  refine EvAr.i64 (by omega) ?_; conv => whnf
  refine EvLoop.go Nat (fun k => ⟨[(0, .v (.slice A t.length c)), (3, .v (.slice (some ⟨g, 0, none⟩) t.length t.length)), (4, .v (.int .i64 ((k : Int) - 1)))], [], 0⟩)
    (fun k w' => Fr [] w w' ∧ k ≤ t.length ∧ HB w' g 3 ((List.replicate k (0 : Int) ++ (endsL t).drop k).map iv)) (fun k => k) t.length ?_ ⟨hF1, Nat.le_refl _, ?_⟩ ?_
  · (refine SubS.mk ?_ ?_ <;> (repeat' (first | exact True.intro | refine And.intro ?_ ?_)) <;> (first | rfl | exact svi (by omega) | exact List.mem_cons_self | exact List.mem_cons_of_mem _ List.mem_cons_self | exact List.mem_cons_of_mem _ (List.mem_cons_of_mem _ List.mem_cons_self) | skip))
  · rw [List.drop_eq_nil_of_le (by rw [endsL_length]; omega)]
    simpa [iv] using hB1
  · rintro k w2 ⟨hF, hk, hB⟩
    dsimp only
    conv => whnf
    refine EvIf.ge (fun h1 => ?_) (fun h1 => ?_)
    · obtain ⟨k, rfl⟩ : ∃ j, k = j + 1 := ⟨k - 1, by omega⟩
      have ht2 := ht.fr0 hF
      conv => whnf
      refine EvAr.i64 (by omega) ?_; conv => whnf
      refine EvIdx.node ht2 (by omega) (by omega) rfl fun a ha => ?_
      rw [show ((((k + 1 : Nat) : Int) - 1).toNat) = k by omega]
      conv => whnf
      refine EvLd.node ht2 ha (by omega) rfl ?_
      conv => whnf
      have bnd : ∀ k2 p, kidsO t k k2 = some p → k < p ∧ p ≤ t.length := fun k2 p h => kidsO_ge (by omega) h
      have hend := endO_eq (t := t) (i := k) (by omega)
      have hrow := ends_row (t := t) (k := k) (by omega) _ rfl
      refine EvSplit.lt (fun h2 => ?_) (fun h2 => ?_)
      rotate_left
      · conv => whnf
        refine EvIdx.node ht2 (by omega) (by omega) rfl fun a ha => ?_
        rw [show ((((k + 1 : Nat) : Int) - 1).toNat) = k by omega]
        conv => whnf
        refine EvLd.node ht2 ha (by omega) rfl ?_
        conv => whnf
        refine EvIf.gt (fun h3 => ?_) (fun h3 => ?_)
        · obtain ⟨a0, ha0, hI0⟩ : ∃ a0 : Int, a0 = -1 ∧ (((t[k].kids < 0 ∨ (t.length : Int) < t[k].kids) ∧ (0 : Nat) = 0 ∧ a0 = -1) ∨ (¬ (t[k].kids < 0 ∨ (t.length : Int) < t[k].kids) ∧ 0 ≤ t[k].kids.toNat ∧ a0 = optI (kidsO t k 0))) := ⟨-1, rfl, .inl ⟨.inr h3, rfl, rfl⟩⟩
          conv => whnf
          refine EvLoop.meet (Nat × Int) (fun x => ⟨[(0, .v (.slice A t.length c)), (3, .v (.slice (some ⟨g, 0, none⟩) t.length t.length)), (4, .v (.int .i64 (((k + 1 : Nat) : Int) - 1))), (5, .v (.int .i64 x.2)), (6, .v (.int .i64 x.1))], [], 0⟩)
            (fun x w' => w' = w2 ∧ (((t[k].kids < 0 ∨ (t.length : Int) < t[k].kids) ∧ x.1 = 0 ∧ x.2 = -1) ∨ (¬ (t[k].kids < 0 ∨ (t.length : Int) < t[k].kids) ∧ x.1 ≤ t[k].kids.toNat ∧ x.2 = optI (kidsO t k x.1)))) (fun x => t[k].kids.toNat - x.1) (0, a0)
            Unit (.exit 2) (fun _ => ⟨[(0, .v (.slice A t.length c)), (3, .v (.slice (some ⟨g, 0, none⟩) t.length t.length)), (4, .v (.int .i64 (((k + 1 : Nat) : Int) - 1))), (5, .v (.int .i64 (optI (endO t k))))], [], 0⟩) (fun _ w' => w' = w2) ?_ ?_ ?_ ?_
          · (refine SubS.mk ?_ ?_ <;> (repeat' (first | exact True.intro | refine And.intro ?_ ?_)) <;> (first | rfl | exact svi (by omega) | exact List.mem_cons_self | exact List.mem_cons_of_mem _ List.mem_cons_self | exact List.mem_cons_of_mem _ (List.mem_cons_of_mem _ List.mem_cons_self) | skip))
          · exact ⟨rfl, hI0⟩
          · rintro ⟨kk, a5⟩ w3 ⟨rfl, hI⟩
            dsimp only at hI ⊢
            conv => whnf
            refine EvIdx.node ht2 (by omega) (by omega) rfl fun a ha => ?_
            rw [show ((((k + 1 : Nat) : Int) - 1).toNat) = k by omega]
            conv => whnf
            refine EvLd.node ht2 ha (by omega) rfl ?_
            conv => whnf
            refine EvSplit.lt (fun h3 => ?_) (fun h3 => ?_)
            · conv => whnf
              refine EvIf.ge (fun h4 => ?_) (fun h4 => ?_)
              · rcases hI with ⟨_, _, h5⟩ | ⟨g1, g2, g3⟩
                · omega
                rw [if_neg g1] at hend
                obtain ⟨p, hp⟩ : ∃ p, kidsO t k kk = some p := by
                  cases hk2 : kidsO t k kk with
                  | none => rw [hk2] at g3; rw [g3] at h4; simp [optI] at h4
                  | some p => exact ⟨p, rfl⟩
                rw [hp] at g3
                simp only [optI] at g3
                subst g3
                have hp2 := bnd kk p hp
                have hsucc := kidsO_succ t k kk
                rw [hp, Option.bind_some] at hsucc
                conv => whnf
                refine EvIf.ge (fun h5 => ?_) (fun h5 => ?_)
                · conv => whnf
                  refine Meet.at_ () ?_ rfl
                  have : endO t k = none := by
                    rw [hend]
                    rw [endO_beyond (by omega)] at hsucc
                    cases hx : kidsO t k t[k].kids.toNat with
                    | none => rfl
                    | some q => exact absurd hsucc (kidsO_mono (k := t[k].kids.toNat) (by omega) (by rw [hx]; simp))
                  rw [this]
                  (refine SubS.mk ?_ ?_ <;> (repeat' (first | exact True.intro | refine And.intro ?_ ?_)) <;> (first | rfl | exact svi (by omega) | exact List.mem_cons_self | exact List.mem_cons_of_mem _ List.mem_cons_self | exact List.mem_cons_of_mem _ (List.mem_cons_of_mem _ List.mem_cons_self) | skip))
                · conv => whnf
                  refine EvIdx.one (by omega) (by omega) rfl ?_
                  rw [Int.toNat_natCast]
                  conv => whnf
                  refine EvLd.blk hB (ends_read (by omega) (by omega)) ?_
                  conv => whnf
                  refine EvAr.i64 (by omega) ?_; conv => whnf
                  refine ⟨(kk + 1, optI (endO t p)), ?_, ⟨rfl, .inr ⟨g1, by dsimp only; omega, by rw [hsucc]⟩⟩, by dsimp only; omega⟩
                  (refine SubS.mk ?_ ?_ <;> (repeat' (first | exact True.intro | refine And.intro ?_ ?_)) <;> (first | rfl | exact svi (by omega) | exact List.mem_cons_self | exact List.mem_cons_of_mem _ List.mem_cons_self | exact List.mem_cons_of_mem _ (List.mem_cons_of_mem _ List.mem_cons_self) | skip))
              · conv => whnf
                refine Meet.at_ () ?_ rfl
                have : optI (endO t k) = a5 := by
                  rcases hI with ⟨g1, g2, g3⟩ | ⟨g1, g2, g3⟩
                  · rw [hend, if_pos g1, g3]; rfl
                  · have : kidsO t k kk = none := by
                      cases hk2 : kidsO t k kk with
                      | none => rfl
                      | some q => rw [hk2] at g3; simp only [optI] at g3; omega
                    rw [hend, if_neg g1, g3, this]
                    cases hx : kidsO t k t[k].kids.toNat with
                    | none => rfl
                    | some q => exact absurd this (kidsO_mono (k := t[k].kids.toNat) (by omega) (by rw [hx]; simp))
                rw [this]
                (refine SubS.mk ?_ ?_ <;> (repeat' (first | exact True.intro | refine And.intro ?_ ?_)) <;> (first | rfl | exact svi (by omega) | exact List.mem_cons_self | exact List.mem_cons_of_mem _ List.mem_cons_self | exact List.mem_cons_of_mem _ (List.mem_cons_of_mem _ List.mem_cons_self) | skip))
            · conv => whnf
              refine Meet.at_ () ?_ rfl
              have : optI (endO t k) = a5 := by
                rcases hI with ⟨g1, g2, g3⟩ | ⟨g1, g2, g3⟩
                · rw [hend, if_pos g1, g3]; rfl
                · rw [hend, if_neg g1, g3, show kk = t[k].kids.toNat by omega]
              rw [this]
              (refine SubS.mk ?_ ?_ <;> (repeat' (first | exact True.intro | refine And.intro ?_ ?_)) <;> (first | rfl | exact svi (by omega) | exact List.mem_cons_self | exact List.mem_cons_of_mem _ List.mem_cons_self | exact List.mem_cons_of_mem _ (List.mem_cons_of_mem _ List.mem_cons_self) | skip))
          · rintro _ w3 rfl
            dsimp only
            conv => whnf
            refine EvIdx.one (by omega) (by omega) rfl ?_
            rw [show ((((k + 1 : Nat) : Int) - 1).toNat) = k by omega]
            conv => whnf
            refine EvSt.blk hB (by rw [List.getElem?_map, List.getElem?_append_left (by simp), List.getElem?_replicate]; simp; rfl) rfl (by simp [rsOf]) fun w4 hF4 hB4 => ?_
            conv => whnf
            refine EvAr.i64 (by omega) ?_; conv => whnf
            refine ⟨k, ?_, ⟨hF.trans' hF4 (by simp; omega), by omega, ?_⟩, by omega⟩
            · (refine SubS.mk ?_ ?_ <;> (repeat' (first | exact True.intro | refine And.intro ?_ ?_)) <;> (first | rfl | exact svi (by omega) | exact List.mem_cons_self | exact List.mem_cons_of_mem _ List.mem_cons_self | exact List.mem_cons_of_mem _ (List.mem_cons_of_mem _ List.mem_cons_self) | skip))
            · rw [show Value.int IntKind.i64 (optI (endO t k)) = iv (optI (endO t k)) from rfl, hrow] at hB4
              exact hB4
        · obtain ⟨a0, ha0, hI0⟩ : ∃ a0 : Int, a0 = (k : Int) + 1 ∧ (((t[k].kids < 0 ∨ (t.length : Int) < t[k].kids) ∧ (0 : Nat) = 0 ∧ a0 = -1) ∨ (¬ (t[k].kids < 0 ∨ (t.length : Int) < t[k].kids) ∧ 0 ≤ t[k].kids.toNat ∧ a0 = optI (kidsO t k 0))) := ⟨_, rfl, .inr ⟨by omega, by omega, by rw [kidsO_zero]; rfl⟩⟩
          conv => whnf
          refine EvLoop.meet (Nat × Int) (fun x => ⟨[(0, .v (.slice A t.length c)), (3, .v (.slice (some ⟨g, 0, none⟩) t.length t.length)), (4, .v (.int .i64 (((k + 1 : Nat) : Int) - 1))), (5, .v (.int .i64 x.2)), (6, .v (.int .i64 x.1))], [], 0⟩)
            (fun x w' => w' = w2 ∧ (((t[k].kids < 0 ∨ (t.length : Int) < t[k].kids) ∧ x.1 = 0 ∧ x.2 = -1) ∨ (¬ (t[k].kids < 0 ∨ (t.length : Int) < t[k].kids) ∧ x.1 ≤ t[k].kids.toNat ∧ x.2 = optI (kidsO t k x.1)))) (fun x => t[k].kids.toNat - x.1) (0, a0)
            Unit (.exit 2) (fun _ => ⟨[(0, .v (.slice A t.length c)), (3, .v (.slice (some ⟨g, 0, none⟩) t.length t.length)), (4, .v (.int .i64 (((k + 1 : Nat) : Int) - 1))), (5, .v (.int .i64 (optI (endO t k))))], [], 0⟩) (fun _ w' => w' = w2) ?_ ?_ ?_ ?_
          · (refine SubS.mk ?_ ?_ <;> (repeat' (first | exact True.intro | refine And.intro ?_ ?_)) <;> (first | rfl | exact svi (by omega) | exact List.mem_cons_self | exact List.mem_cons_of_mem _ List.mem_cons_self | exact List.mem_cons_of_mem _ (List.mem_cons_of_mem _ List.mem_cons_self) | skip))
          · exact ⟨rfl, hI0⟩
          · rintro ⟨kk, a5⟩ w3 ⟨rfl, hI⟩
            dsimp only at hI ⊢
            conv => whnf
            refine EvIdx.node ht2 (by omega) (by omega) rfl fun a ha => ?_
            rw [show ((((k + 1 : Nat) : Int) - 1).toNat) = k by omega]
            conv => whnf
            refine EvLd.node ht2 ha (by omega) rfl ?_
            conv => whnf
            refine EvSplit.lt (fun h3 => ?_) (fun h3 => ?_)
            · conv => whnf
              refine EvIf.ge (fun h4 => ?_) (fun h4 => ?_)
              · rcases hI with ⟨_, _, h5⟩ | ⟨g1, g2, g3⟩
                · omega
                rw [if_neg g1] at hend
                obtain ⟨p, hp⟩ : ∃ p, kidsO t k kk = some p := by
                  cases hk2 : kidsO t k kk with
                  | none => rw [hk2] at g3; rw [g3] at h4; simp [optI] at h4
                  | some p => exact ⟨p, rfl⟩
                rw [hp] at g3
                simp only [optI] at g3
                subst g3
                have hp2 := bnd kk p hp
                have hsucc := kidsO_succ t k kk
                rw [hp, Option.bind_some] at hsucc
                conv => whnf
                refine EvIf.ge (fun h5 => ?_) (fun h5 => ?_)
                · conv => whnf
                  refine Meet.at_ () ?_ rfl
                  have : endO t k = none := by
                    rw [hend]
                    rw [endO_beyond (by omega)] at hsucc
                    cases hx : kidsO t k t[k].kids.toNat with
                    | none => rfl
                    | some q => exact absurd hsucc (kidsO_mono (k := t[k].kids.toNat) (by omega) (by rw [hx]; simp))
                  rw [this]
                  (refine SubS.mk ?_ ?_ <;> (repeat' (first | exact True.intro | refine And.intro ?_ ?_)) <;> (first | rfl | exact svi (by omega) | exact List.mem_cons_self | exact List.mem_cons_of_mem _ List.mem_cons_self | exact List.mem_cons_of_mem _ (List.mem_cons_of_mem _ List.mem_cons_self) | skip))
                · conv => whnf
                  refine EvIdx.one (by omega) (by omega) rfl ?_
                  rw [Int.toNat_natCast]
                  conv => whnf
                  refine EvLd.blk hB (ends_read (by omega) (by omega)) ?_
                  conv => whnf
                  refine EvAr.i64 (by omega) ?_; conv => whnf
                  refine ⟨(kk + 1, optI (endO t p)), ?_, ⟨rfl, .inr ⟨g1, by dsimp only; omega, by rw [hsucc]⟩⟩, by dsimp only; omega⟩
                  (refine SubS.mk ?_ ?_ <;> (repeat' (first | exact True.intro | refine And.intro ?_ ?_)) <;> (first | rfl | exact svi (by omega) | exact List.mem_cons_self | exact List.mem_cons_of_mem _ List.mem_cons_self | exact List.mem_cons_of_mem _ (List.mem_cons_of_mem _ List.mem_cons_self) | skip))
              · conv => whnf
                refine Meet.at_ () ?_ rfl
                have : optI (endO t k) = a5 := by
                  rcases hI with ⟨g1, g2, g3⟩ | ⟨g1, g2, g3⟩
                  · rw [hend, if_pos g1, g3]; rfl
                  · have : kidsO t k kk = none := by
                      cases hk2 : kidsO t k kk with
                      | none => rfl
                      | some q => rw [hk2] at g3; simp only [optI] at g3; omega
                    rw [hend, if_neg g1, g3, this]
                    cases hx : kidsO t k t[k].kids.toNat with
                    | none => rfl
                    | some q => exact absurd this (kidsO_mono (k := t[k].kids.toNat) (by omega) (by rw [hx]; simp))
                rw [this]
                (refine SubS.mk ?_ ?_ <;> (repeat' (first | exact True.intro | refine And.intro ?_ ?_)) <;> (first | rfl | exact svi (by omega) | exact List.mem_cons_self | exact List.mem_cons_of_mem _ List.mem_cons_self | exact List.mem_cons_of_mem _ (List.mem_cons_of_mem _ List.mem_cons_self) | skip))
            · conv => whnf
              refine Meet.at_ () ?_ rfl
              have : optI (endO t k) = a5 := by
                rcases hI with ⟨g1, g2, g3⟩ | ⟨g1, g2, g3⟩
                · rw [hend, if_pos g1, g3]; rfl
                · rw [hend, if_neg g1, g3, show kk = t[k].kids.toNat by omega]
              rw [this]
              (refine SubS.mk ?_ ?_ <;> (repeat' (first | exact True.intro | refine And.intro ?_ ?_)) <;> (first | rfl | exact svi (by omega) | exact List.mem_cons_self | exact List.mem_cons_of_mem _ List.mem_cons_self | exact List.mem_cons_of_mem _ (List.mem_cons_of_mem _ List.mem_cons_self) | skip))
          · rintro _ w3 rfl
            dsimp only
            conv => whnf
            refine EvIdx.one (by omega) (by omega) rfl ?_
            rw [show ((((k + 1 : Nat) : Int) - 1).toNat) = k by omega]
            conv => whnf
            refine EvSt.blk hB (by rw [List.getElem?_map, List.getElem?_append_left (by simp), List.getElem?_replicate]; simp; rfl) rfl (by simp [rsOf]) fun w4 hF4 hB4 => ?_
            conv => whnf
            refine EvAr.i64 (by omega) ?_; conv => whnf
            refine ⟨k, ?_, ⟨hF.trans' hF4 (by simp; omega), by omega, ?_⟩, by omega⟩
            · (refine SubS.mk ?_ ?_ <;> (repeat' (first | exact True.intro | refine And.intro ?_ ?_)) <;> (first | rfl | exact svi (by omega) | exact List.mem_cons_self | exact List.mem_cons_of_mem _ List.mem_cons_self | exact List.mem_cons_of_mem _ (List.mem_cons_of_mem _ List.mem_cons_self) | skip))
            · rw [show Value.int IntKind.i64 (optI (endO t k)) = iv (optI (endO t k)) from rfl, hrow] at hB4
              exact hB4
      · obtain ⟨a0, ha0, hI0⟩ : ∃ a0 : Int, a0 = -1 ∧ (((t[k].kids < 0 ∨ (t.length : Int) < t[k].kids) ∧ (0 : Nat) = 0 ∧ a0 = -1) ∨ (¬ (t[k].kids < 0 ∨ (t.length : Int) < t[k].kids) ∧ 0 ≤ t[k].kids.toNat ∧ a0 = optI (kidsO t k 0))) := ⟨-1, rfl, .inl ⟨.inl h2, rfl, rfl⟩⟩
        conv => whnf
        refine EvLoop.meet (Nat × Int) (fun x => ⟨[(0, .v (.slice A t.length c)), (3, .v (.slice (some ⟨g, 0, none⟩) t.length t.length)), (4, .v (.int .i64 (((k + 1 : Nat) : Int) - 1))), (5, .v (.int .i64 x.2)), (6, .v (.int .i64 x.1))], [], 0⟩)
          (fun x w' => w' = w2 ∧ (((t[k].kids < 0 ∨ (t.length : Int) < t[k].kids) ∧ x.1 = 0 ∧ x.2 = -1) ∨ (¬ (t[k].kids < 0 ∨ (t.length : Int) < t[k].kids) ∧ x.1 ≤ t[k].kids.toNat ∧ x.2 = optI (kidsO t k x.1)))) (fun x => t[k].kids.toNat - x.1) (0, a0)
          Unit (.exit 2) (fun _ => ⟨[(0, .v (.slice A t.length c)), (3, .v (.slice (some ⟨g, 0, none⟩) t.length t.length)), (4, .v (.int .i64 (((k + 1 : Nat) : Int) - 1))), (5, .v (.int .i64 (optI (endO t k))))], [], 0⟩) (fun _ w' => w' = w2) ?_ ?_ ?_ ?_
        · (refine SubS.mk ?_ ?_ <;> (repeat' (first | exact True.intro | refine And.intro ?_ ?_)) <;> (first | rfl | exact svi (by omega) | exact List.mem_cons_self | exact List.mem_cons_of_mem _ List.mem_cons_self | exact List.mem_cons_of_mem _ (List.mem_cons_of_mem _ List.mem_cons_self) | skip))
        · exact ⟨rfl, hI0⟩
        · rintro ⟨kk, a5⟩ w3 ⟨rfl, hI⟩
          dsimp only at hI ⊢
          conv => whnf
          refine EvIdx.node ht2 (by omega) (by omega) rfl fun a ha => ?_
          rw [show ((((k + 1 : Nat) : Int) - 1).toNat) = k by omega]
          conv => whnf
          refine EvLd.node ht2 ha (by omega) rfl ?_
          conv => whnf
          refine EvSplit.lt (fun h3 => ?_) (fun h3 => ?_)
          · conv => whnf
            refine EvIf.ge (fun h4 => ?_) (fun h4 => ?_)
            · rcases hI with ⟨_, _, h5⟩ | ⟨g1, g2, g3⟩
              · omega
              rw [if_neg g1] at hend
              obtain ⟨p, hp⟩ : ∃ p, kidsO t k kk = some p := by
                cases hk2 : kidsO t k kk with
                | none => rw [hk2] at g3; rw [g3] at h4; simp [optI] at h4
                | some p => exact ⟨p, rfl⟩
              rw [hp] at g3
              simp only [optI] at g3
              subst g3
              have hp2 := bnd kk p hp
              have hsucc := kidsO_succ t k kk
              rw [hp, Option.bind_some] at hsucc
              conv => whnf
              refine EvIf.ge (fun h5 => ?_) (fun h5 => ?_)
              · conv => whnf
                refine Meet.at_ () ?_ rfl
                have : endO t k = none := by
                  rw [hend]
                  rw [endO_beyond (by omega)] at hsucc
                  cases hx : kidsO t k t[k].kids.toNat with
                  | none => rfl
                  | some q => exact absurd hsucc (kidsO_mono (k := t[k].kids.toNat) (by omega) (by rw [hx]; simp))
                rw [this]
                (refine SubS.mk ?_ ?_ <;> (repeat' (first | exact True.intro | refine And.intro ?_ ?_)) <;> (first | rfl | exact svi (by omega) | exact List.mem_cons_self | exact List.mem_cons_of_mem _ List.mem_cons_self | exact List.mem_cons_of_mem _ (List.mem_cons_of_mem _ List.mem_cons_self) | skip))
              · conv => whnf
                refine EvIdx.one (by omega) (by omega) rfl ?_
                rw [Int.toNat_natCast]
                conv => whnf
                refine EvLd.blk hB (ends_read (by omega) (by omega)) ?_
                conv => whnf
                refine EvAr.i64 (by omega) ?_; conv => whnf
                refine ⟨(kk + 1, optI (endO t p)), ?_, ⟨rfl, .inr ⟨g1, by dsimp only; omega, by rw [hsucc]⟩⟩, by dsimp only; omega⟩
                (refine SubS.mk ?_ ?_ <;> (repeat' (first | exact True.intro | refine And.intro ?_ ?_)) <;> (first | rfl | exact svi (by omega) | exact List.mem_cons_self | exact List.mem_cons_of_mem _ List.mem_cons_self | exact List.mem_cons_of_mem _ (List.mem_cons_of_mem _ List.mem_cons_self) | skip))
            · conv => whnf
              refine Meet.at_ () ?_ rfl
              have : optI (endO t k) = a5 := by
                rcases hI with ⟨g1, g2, g3⟩ | ⟨g1, g2, g3⟩
                · rw [hend, if_pos g1, g3]; rfl
                · have : kidsO t k kk = none := by
                    cases hk2 : kidsO t k kk with
                    | none => rfl
                    | some q => rw [hk2] at g3; simp only [optI] at g3; omega
                  rw [hend, if_neg g1, g3, this]
                  cases hx : kidsO t k t[k].kids.toNat with
                  | none => rfl
                  | some q => exact absurd this (kidsO_mono (k := t[k].kids.toNat) (by omega) (by rw [hx]; simp))
              rw [this]
              (refine SubS.mk ?_ ?_ <;> (repeat' (first | exact True.intro | refine And.intro ?_ ?_)) <;> (first | rfl | exact svi (by omega) | exact List.mem_cons_self | exact List.mem_cons_of_mem _ List.mem_cons_self | exact List.mem_cons_of_mem _ (List.mem_cons_of_mem _ List.mem_cons_self) | skip))
          · conv => whnf
            refine Meet.at_ () ?_ rfl
            have : optI (endO t k) = a5 := by
              rcases hI with ⟨g1, g2, g3⟩ | ⟨g1, g2, g3⟩
              · rw [hend, if_pos g1, g3]; rfl
              · rw [hend, if_neg g1, g3, show kk = t[k].kids.toNat by omega]
            rw [this]
            (refine SubS.mk ?_ ?_ <;> (repeat' (first | exact True.intro | refine And.intro ?_ ?_)) <;> (first | rfl | exact svi (by omega) | exact List.mem_cons_self | exact List.mem_cons_of_mem _ List.mem_cons_self | exact List.mem_cons_of_mem _ (List.mem_cons_of_mem _ List.mem_cons_self) | skip))
        · rintro _ w3 rfl
          dsimp only
          conv => whnf
          refine EvIdx.one (by omega) (by omega) rfl ?_
          rw [show ((((k + 1 : Nat) : Int) - 1).toNat) = k by omega]
          conv => whnf
          refine EvSt.blk hB (by rw [List.getElem?_map, List.getElem?_append_left (by simp), List.getElem?_replicate]; simp; rfl) rfl (by simp [rsOf]) fun w4 hF4 hB4 => ?_
          conv => whnf
          refine EvAr.i64 (by omega) ?_; conv => whnf
          refine ⟨k, ?_, ⟨hF.trans' hF4 (by simp; omega), by omega, ?_⟩, by omega⟩
          · (refine SubS.mk ?_ ?_ <;> (repeat' (first | exact True.intro | refine And.intro ?_ ?_)) <;> (first | rfl | exact svi (by omega) | exact List.mem_cons_self | exact List.mem_cons_of_mem _ List.mem_cons_self | exact List.mem_cons_of_mem _ (List.mem_cons_of_mem _ List.mem_cons_self) | skip))
          · rw [show Value.int IntKind.i64 (optI (endO t k)) = iv (optI (endO t k)) from rfl, hrow] at hB4
            exact hB4
    · conv => whnf
      refine ⟨hF, g, rfl, by omega, ?_⟩
      obtain rfl : k = 0 := by omega
      simpa using hB

theorem kids_own (A : Option Addr) (c : Nat) (t : List Nd) (i : Int) (w : World) (ht : NodesAt w A t) (hl : t.length ≤ 1073741824) (hi : -9223372036854775808 ≤ i) (hi2 : i ≤ 1073741824) :
    Ret Tryz.prog 50 [.slice A t.length c, .int .i64 i] w [] fun v w' => ∃ A' c', v = .slice A' (kidsL t i).length c' ∧ IntsAt w' A' (kidsL t i) ∧ (∀ x, A' = some x → w.heap.size ≤ x.block) ∧ (kidsL t i).length ≤ c' ∧ Own w' 3 1 v (kidsL t i).length ((kidsL t i).map fun x => Value.int .i64 x) := by
  refine fn_go (cx_ok 33 []) wideOrders Tryz.func50 rfl rfl Tryz.call50 (by simp [cx]) ?_; conv => whnf
  refine EvCall.ret0 (behind_ok A c t i w ht hl hi) fun v w1 hF1 hr => ?_
  obtain ⟨rfl, rfl⟩ := hr
  conv => whnf
  refine EvIf.lt (fun h1 => ?_) (fun h1 => ?_)
  · conv => whnf
    refine ⟨Fr.refl _ _, none, 0, ?_, ?_⟩
    · unfold kidsL; rw [if_pos h1]; rfl
    · unfold kidsL; rw [if_pos h1]; exact ⟨Rows.nil, by simp, by simp, Own.nil⟩
  conv => whnf
  have hi0 : 0 ≤ i := by
    rcases Int.lt_or_le i 0 with h | h
    · unfold behind at h1; rw [if_pos (.inl h)] at h1; omega
    · exact h
  obtain ⟨i, rfl⟩ : ∃ j : Nat, i = j := ⟨i.toNat, by omega⟩
  have hw : Whole t i := behind_whole.1 h1
  obtain ⟨hlt, hk⟩ := whole_kids hw
  obtain ⟨k1, k2, k3⟩ := hk hlt
  refine EvCall.ret0 (ends_ok A c t w1 ht hl) fun v w2 hF2 hr => ?_
  obtain ⟨g, rfl, hg, hB⟩ := hr
  have ht2 := ht.fr0 hF2
  conv => whnf
  refine EvAr.i64 (by omega) ?_; conv => whnf
  refine EvIdx.node ht2 (by omega) (by omega) rfl fun a ha => ?_
  rw [Int.toNat_natCast]
  conv => whnf
  refine EvLd.node ht2 ha (by omega) rfl ?_
  conv => whnf
  have hpos : ∀ j, j < t[i].kids.toNat → ∃ p, kidsO t i j = some p ∧ p < t.length ∧ Whole t p := fun j hj => by
    obtain ⟨p, q1, q2, q3, q4⟩ := kid_whole hw hlt hj
    exact ⟨p, q1, q3, q4⟩
  refine EvLoop.go (Nat × Value) (fun x => ⟨[(5, .v (.slice (some ⟨g, 0, none⟩) t.length t.length)), (6, .v x.2), (7, .v (.int .i64 (optI (kidsO t i x.1)))), (20, .v (.int .i64 t[i].kids)), (21, .v (.int .i64 x.1))], [], 0⟩)
    (fun x w' => Fr [] w2 w' ∧ x.1 ≤ t[i].kids.toNat ∧ Own w' 3 1 x.2 x.1 (((List.range x.1).map fun k => optI (kidsO t i k)).map fun x => Value.int .i64 x) ∧ (∀ b, x.2.ownBlock = some b → w2.heap.size ≤ b)) (fun x => t[i].kids.toNat - x.1) (0, .slice none 0 0) ?_ ⟨Fr.refl _ _, by omega, Own.nil, by simp [Value.ownBlock]⟩ ?_
  · (refine SubS.mk ?_ ?_ <;> (repeat' (first | exact True.intro | refine And.intro ?_ ?_)) <;> (first | rfl | exact svi (by omega) | exact List.mem_cons_self | exact List.mem_cons_of_mem _ List.mem_cons_self | exact List.mem_cons_of_mem _ (List.mem_cons_of_mem _ List.mem_cons_self) | skip))
    rw [kidsO_zero]; exact svi (by simp [optI])
  · rintro ⟨j, sv⟩ w3 ⟨hF3, hj, hown, hob⟩
    dsimp only at *
    obtain ⟨As, cs, rfl, hjc, _⟩ := hown.form
    conv => whnf
    refine EvIf.lt (fun h2 => ?_) (fun h2 => ?_)
    · obtain ⟨p, q1, q2, q3⟩ := hpos j (by omega)
      rw [q1]
      conv => whnf
      refine EvNew.blk fun r w4 hr hz hF4 hB4 => ?_
      conv => whnf
      refine EvApp.lit (cx_ok 0 []) rfl (⟨rfl, rfl, rfl, rfl⟩ : El (cx 0 []) 3 1 8 [.int .i64 0]) (by omega) rfl (hown.fr0 hF4) hB4 rfl (by simp [Value.oneCell']) (by omega) (by simp [maxLen]; omega) (by simp [rsOf]) fun v' w5 hown' hF5 hat => ?_
      have hob' : ∀ b, v'.ownBlock = some b → w2.heap.size ≤ b := fun b hb => by
        have s3 := hF3.size
        have s4 := hF4.size
        rcases hat with e | e
        · rw [e] at hb; exact hob b hb
        · rw [e] at hb; injection hb with hb; omega
      have hF23 : Fr [] w2 w5 := (hF3.trans hF4).trans' hF5 fun x hx hlt => by
        have := hob x (toList_some.1 hx); omega
      obtain ⟨A5, c5, rfl, _⟩ := hown'.form
      conv => whnf
      refine EvIdx.one (by simp [optI]) (by simp [optI]; omega) rfl ?_
      rw [show (optI (some p)).toNat = p from rfl]
      conv => whnf
      refine EvLd.blk (hB.fr0 hF23) (by rw [List.getElem?_map, endsL_get q2]; rfl) ?_
      conv => whnf
      refine EvAr.i64 (by omega) ?_; conv => whnf
      have hsucc := kidsO_succ t i j
      rw [q1, Option.bind_some] at hsucc
      refine ⟨(j + 1, .slice A5 (j + 1) c5), ?_, ⟨hF23, by dsimp only; omega, ?_, hob'⟩, by dsimp only; omega⟩
      · rw [hsucc]
        (refine SubS.mk ?_ ?_ <;> (repeat' (first | exact True.intro | refine And.intro ?_ ?_)) <;> (first | rfl | exact svi (by omega) | exact List.mem_cons_self | exact List.mem_cons_of_mem _ List.mem_cons_self | exact List.mem_cons_of_mem _ (List.mem_cons_of_mem _ List.mem_cons_self) | skip))
      · rw [List.range_succ, List.map_append, List.map_append]
        simpa [q1] using hown'
    · conv => whnf
      obtain rfl : j = t[i].kids.toNat := by omega
      obtain ⟨A', c', e1, e2⟩ := hown.ints
      have hlk : (kidsL t i).length = t[i].kids.toNat := by rw [kidsL_whole hw hlt]; simp
      refine ⟨hF2.trans hF3, A', c', ?_, ?_⟩
      · rw [kidsL_whole hw hlt]; exact e1
      · rw [hlk, kidsL_whole hw hlt]
        refine ⟨e2, fun x hx => ?_, ?_, hown⟩
        · have := hob x.block (by rw [e1, hx]; rfl)
          have := hF2.size
          omega
        · injection e1 with e3 e4 e5
          omega
theorem kids_okc (A : Option Addr) (c : Nat) (t : List Nd) (i : Int) (w : World) (ht : NodesAt w A t) (hl : t.length ≤ 1073741824) (hi : -9223372036854775808 ≤ i) (hi2 : i ≤ 1073741824) :
    Ret Tryz.prog 50 [.slice A t.length c, .int .i64 i] w [] fun v w' => ∃ A' c', v = .slice A' (kidsL t i).length c' ∧ IntsAt w' A' (kidsL t i) ∧ (∀ x, A' = some x → w.heap.size ≤ x.block) ∧ (kidsL t i).length ≤ c' :=
  (kids_own A c t i w ht hl hi hi2).mono fun _ _ _ ⟨A', c', h1, h2, h3, h4, _⟩ => ⟨A', c', h1, h2, h3, h4⟩
theorem kids_ok (A : Option Addr) (c : Nat) (t : List Nd) (i : Int) (w : World) (ht : NodesAt w A t) (hl : t.length ≤ 1073741824) (hi : -9223372036854775808 ≤ i) (hi2 : i ≤ 1073741824) :
    Ret Tryz.prog 50 [.slice A t.length c, .int .i64 i] w [] fun v w' => ∃ A' c', v = .slice A' (kidsL t i).length c' ∧ IntsAt w' A' (kidsL t i) ∧ ∀ x, A' = some x → w.heap.size ≤ x.block :=
  (kids_okc A c t i w ht hl hi hi2).mono fun _ _ _ ⟨A', c', h1, h2, h3, _⟩ => ⟨A', c', h1, h2, h3⟩
end Go.Proofs.Tab
