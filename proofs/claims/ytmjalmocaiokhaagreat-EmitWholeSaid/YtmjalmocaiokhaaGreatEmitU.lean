/- Package emit: the pools as maps. No condition. -/
import Derived.Test.YtmjalmocaiokhaaGreatEmitT
import Derived.Test.YtmjalmocaiokhaaGreatSize
set_option linter.unusedVariables false
set_option linter.unusedSimpArgs false
set_option maxRecDepth 100000
namespace Go.Proofs.Tab
open Go Go.Fw

/-- The first place of each thing of a pool. -/
def numF {α : Type} [DecidableEq α] : List α → α → Option Int := fun l x => if l.idxOf x < l.length ∧ l.idxOf x < 4096 then some (l.idxOf x : Int) else none
theorem numF_snoc {α : Type} [DecidableEq α] (l : List α) (a : α) : numF (l ++ [a]) = if (numF l a).isNone ∧ l.length < 4096 then setF (numF l) a (some (l.length : Int)) else numF l := by
  funext x
  have key : (l ++ [a]).idxOf x = if x ∈ l then l.idxOf x else if x = a then l.length else l.length + 1 := by
    rw [List.idxOf_append]
    by_cases hx : x ∈ l
    · rw [if_pos hx, if_pos hx]
    · rw [if_neg hx, if_neg hx]
      by_cases ha : x = a
      · subst ha; simp
      · rw [if_neg ha, List.idxOf_cons]
        have : (a == x) = false := by simpa using fun h => ha h.symm
        rw [this]; simp; omega
  have hl : ∀ y : α, l.idxOf y < l.length ↔ y ∈ l := fun y => List.idxOf_lt_length_iff
  have hle : ∀ y : α, y ∈ l → l.idxOf y < l.length := fun y h => (hl y).2 h
  by_cases hc : (numF l a).isNone ∧ l.length < 4096
  · rw [if_pos hc]
    have ha : a ∉ l := fun h => by
      have h2 := hle a h
      have := hc.1
      unfold numF at this
      rw [if_pos ⟨h2, by omega⟩] at this
      cases this
    unfold setF
    by_cases hx : x = a
    · subst hx
      rw [if_pos rfl]
      unfold numF
      rw [key, if_neg ha, if_pos rfl, if_pos (by simp; omega)]
    · rw [if_neg hx]
      unfold numF
      rw [key]
      by_cases hm : x ∈ l
      · have := hle x hm
        rw [if_pos hm]
        by_cases h2 : l.idxOf x < 4096
        · rw [if_pos (by simp; omega), if_pos ⟨this, h2⟩]
        · rw [if_neg (by omega), if_neg (by omega)]
      · rw [if_neg hm, if_neg hx, if_neg (by simp), if_neg (by rw [hl]; exact fun h => hm h.1)]
  · rw [if_neg hc]
    unfold numF
    rw [key]
    by_cases hm : x ∈ l
    · have := hle x hm
      rw [if_pos hm]
      by_cases h2 : l.idxOf x < 4096
      · rw [if_pos (by simp; omega), if_pos ⟨this, h2⟩]
      · rw [if_neg (by omega), if_neg (by omega)]
    · rw [if_neg hm]
      have hn : ¬ (l.idxOf x < l.length ∧ l.idxOf x < 4096) := by rw [hl]; exact fun h => hm h.1
      rw [if_neg hn]
      by_cases hx : x = a
      · subst hx
        rw [if_pos rfl]
        have : ¬ l.length < 4096 := fun h => hc ⟨by unfold numF; rw [if_neg hn]; rfl, h⟩
        rw [if_neg (by omega)]
      · rw [if_neg hx, if_neg (by simp)]
theorem numF_nil {α : Type} [DecidableEq α] : numF ([] : List α) = fun _ => none := by funext x; unfold numF; rw [if_neg (by simp)]

theorem numbers_ints (A : Option Addr) (c : Nat) (l : List Int) (w : World) (hl : IntsAt w A l) (hn : l.length ≤ 1073741824) :
    Ret Tryz.prog 23 [.slice A l.length c] w [] fun v w' => ∃ r, v = .map (some r) ∧ w.heap.size ≤ r ∧ HM w' r (fun n : Int => Value.int .i64 n) i64R (numF l) := by
  refine fn_go (cx_ok 33 []) wideOrders Tryz.func23 rfl rfl Tryz.call23 (by simp [cx]) ?_; conv => whnf
  refine EvPrim.mkMap (ek := (fun n : Int => Value.int .i64 n)) (R := i64R) fun r w1 hr hz hF1 hM1 => ?_
  conv => whnf
  refine EvLoop.go Nat (fun k => ⟨[(3, .v (.map (some r))), (9, .v (.slice A l.length c)), (10, .v (.int .i64 l.length)), (11, .v (.int .i64 k))], [], 0⟩)
    (fun k w' => k ≤ l.length ∧ Fr [] w w' ∧ HM w' r (fun n : Int => Value.int .i64 n) i64R (numF (l.take k))) (fun k => l.length - k) 0 (by (refine SubS.mk ?_ ?_ <;> (repeat' (first | exact True.intro | refine And.intro ?_ ?_)) <;> (first | rfl | exact svi (by omega) | exact List.mem_cons_self | exact List.mem_cons_of_mem _ List.mem_cons_self | exact List.mem_cons_of_mem _ (List.mem_cons_of_mem _ List.mem_cons_self) | skip))) ⟨by omega, hF1, by rw [List.take_zero, numF_nil]; exact hM1⟩ ?_
  rintro k w2 ⟨hk, hF, hM⟩
  conv => whnf
  refine EvIf.lt (fun g => ?_) (fun g => ?_)
  rotate_left
  · obtain rfl : k = l.length := by omega
    conv => whnf
    rw [List.take_length] at hM
    exact ⟨hF, r, rfl, by omega, hM⟩
  have hkl : k < l.length := by omega
  have hsn : l.take (k + 1) = l.take k ++ [l[k]] := List.take_succ_eq_append_getElem hkl
  have hstep := numF_snoc (l.take k) l[k]
  rw [← hsn, List.length_take, Nat.min_eq_left hk] at hstep
  have hl2 := Rows.fr0 hl hF
  conv => whnf
  refine EvIdx.ints hl2 (by omega) (by omega) rfl rfl fun a ha => ?_
  conv => whnf
  refine EvLd.ints hl2 ha (List.getElem?_eq_getElem hkl) ?_
  conv => whnf
  refine ⟨lookV (numF (l.take k) l[k]), look_i64 rfl (KeyCls.int rfl) (Ky.int .i64) hM l[k], ?_⟩
  conv => whnf
  refine EvSplit.not (fun h1 => ?_) (fun h1 => ?_)
  · have h1' : (numF (l.take k) l[k]).isNone = true := by simpa using h1
    conv => whnf
    refine EvIf.lt (fun h2 => ?_) (fun h2 => ?_)
    · conv => whnf
      refine EvDo.upd (b := (k : Int)) (cx_ok 0 []) rfl (KeyCls.int rfl) (Ky.int .i64) hM l[k] rfl (by simp [rsOf]) fun w3 hF3 hM3 => ?_
      conv => whnf
      refine EvAr.i64 (by omega) ?_; conv => whnf
      refine ⟨k + 1, by (refine SubS.mk ?_ ?_ <;> (repeat' (first | exact True.intro | refine And.intro ?_ ?_)) <;> (first | rfl | exact svi (by omega) | exact List.mem_cons_self | exact List.mem_cons_of_mem _ List.mem_cons_self | exact List.mem_cons_of_mem _ (List.mem_cons_of_mem _ List.mem_cons_self) | skip)), ⟨hkl, hF.trans' hF3 (by simp; omega), ?_⟩, by omega⟩
      rw [hstep, if_pos ⟨h1', by omega⟩]
      exact hM3
    · conv => whnf
      refine EvAr.i64 (by omega) ?_; conv => whnf
      refine ⟨k + 1, by (refine SubS.mk ?_ ?_ <;> (repeat' (first | exact True.intro | refine And.intro ?_ ?_)) <;> (first | rfl | exact svi (by omega) | exact List.mem_cons_self | exact List.mem_cons_of_mem _ List.mem_cons_self | exact List.mem_cons_of_mem _ (List.mem_cons_of_mem _ List.mem_cons_self) | skip)), ⟨hkl, hF, ?_⟩, by omega⟩
      rw [hstep, if_neg (fun e => by omega)]
      exact hM
  · have h1' : ¬ (numF (l.take k) l[k]).isNone = true := by cases hq : numF (l.take k) l[k] <;> simp_all
    conv => whnf
    refine EvAr.i64 (by omega) ?_; conv => whnf
    refine ⟨k + 1, by (refine SubS.mk ?_ ?_ <;> (repeat' (first | exact True.intro | refine And.intro ?_ ?_)) <;> (first | rfl | exact svi (by omega) | exact List.mem_cons_self | exact List.mem_cons_of_mem _ List.mem_cons_self | exact List.mem_cons_of_mem _ (List.mem_cons_of_mem _ List.mem_cons_self) | skip)), ⟨hkl, hF, ?_⟩, by omega⟩
    rw [hstep, if_neg (fun e => h1' e.1)]
    exact hM
theorem numbers_texts (A : Option Addr) (c : Nat) (l : List ByteArray) (w : World) (hl : TextsAt w A l) (hn : l.length ≤ 1073741824) :
    Ret Tryz.prog 24 [.slice A l.length c] w [] fun v w' => ∃ r, v = .map (some r) ∧ w.heap.size ≤ r ∧ HM w' r (fun n : ByteArray => Value.string n) i64R (numF l) := by
  refine fn_go (cx_ok 33 []) wideOrders Tryz.func24 rfl rfl Tryz.call24 (by simp [cx]) ?_; conv => whnf
  refine EvPrim.mkMap (ek := (fun n : ByteArray => Value.string n)) (R := i64R) fun r w1 hr hz hF1 hM1 => ?_
  conv => whnf
  refine EvLoop.go Nat (fun k => ⟨[(3, .v (.map (some r))), (9, .v (.slice A l.length c)), (10, .v (.int .i64 l.length)), (11, .v (.int .i64 k))], [], 0⟩)
    (fun k w' => k ≤ l.length ∧ Fr [] w w' ∧ HM w' r (fun n : ByteArray => Value.string n) i64R (numF (l.take k))) (fun k => l.length - k) 0 (by (refine SubS.mk ?_ ?_ <;> (repeat' (first | exact True.intro | refine And.intro ?_ ?_)) <;> (first | rfl | exact svi (by omega) | exact List.mem_cons_self | exact List.mem_cons_of_mem _ List.mem_cons_self | exact List.mem_cons_of_mem _ (List.mem_cons_of_mem _ List.mem_cons_self) | skip))) ⟨by omega, hF1, by rw [List.take_zero, numF_nil]; exact hM1⟩ ?_
  rintro k w2 ⟨hk, hF, hM⟩
  conv => whnf
  refine EvIf.lt (fun g => ?_) (fun g => ?_)
  rotate_left
  · obtain rfl : k = l.length := by omega
    conv => whnf
    rw [List.take_length] at hM
    exact ⟨hF, r, rfl, by omega, hM⟩
  have hkl : k < l.length := by omega
  have hsn : l.take (k + 1) = l.take k ++ [l[k]] := List.take_succ_eq_append_getElem hkl
  have hstep := numF_snoc (l.take k) l[k]
  rw [← hsn, List.length_take, Nat.min_eq_left hk] at hstep
  have hl2 := Rows.fr0 hl hF
  conv => whnf
  refine TextsAt.idx hl2 hkl rfl rfl fun a ha => ?_
  conv => whnf
  refine TextsAt.ld hl2 ha hkl ?_
  conv => whnf
  refine ⟨lookV (numF (l.take k) l[k]), look_i64 rfl (KeyCls.str rfl) (Ky.str) hM l[k], ?_⟩
  conv => whnf
  refine EvSplit.not (fun h1 => ?_) (fun h1 => ?_)
  · have h1' : (numF (l.take k) l[k]).isNone = true := by simpa using h1
    conv => whnf
    refine EvIf.lt (fun h2 => ?_) (fun h2 => ?_)
    · conv => whnf
      refine EvDo.upd (b := (k : Int)) (cx_ok 0 []) rfl (KeyCls.str rfl) (Ky.str) hM l[k] rfl (by simp [rsOf]) fun w3 hF3 hM3 => ?_
      conv => whnf
      refine EvAr.i64 (by omega) ?_; conv => whnf
      refine ⟨k + 1, by (refine SubS.mk ?_ ?_ <;> (repeat' (first | exact True.intro | refine And.intro ?_ ?_)) <;> (first | rfl | exact svi (by omega) | exact List.mem_cons_self | exact List.mem_cons_of_mem _ List.mem_cons_self | exact List.mem_cons_of_mem _ (List.mem_cons_of_mem _ List.mem_cons_self) | skip)), ⟨hkl, hF.trans' hF3 (by simp; omega), ?_⟩, by omega⟩
      rw [hstep, if_pos ⟨h1', by omega⟩]
      exact hM3
    · conv => whnf
      refine EvAr.i64 (by omega) ?_; conv => whnf
      refine ⟨k + 1, by (refine SubS.mk ?_ ?_ <;> (repeat' (first | exact True.intro | refine And.intro ?_ ?_)) <;> (first | rfl | exact svi (by omega) | exact List.mem_cons_self | exact List.mem_cons_of_mem _ List.mem_cons_self | exact List.mem_cons_of_mem _ (List.mem_cons_of_mem _ List.mem_cons_self) | skip)), ⟨hkl, hF, ?_⟩, by omega⟩
      rw [hstep, if_neg (fun e => by omega)]
      exact hM
  · have h1' : ¬ (numF (l.take k) l[k]).isNone = true := by cases hq : numF (l.take k) l[k] <;> simp_all
    conv => whnf
    refine EvAr.i64 (by omega) ?_; conv => whnf
    refine ⟨k + 1, by (refine SubS.mk ?_ ?_ <;> (repeat' (first | exact True.intro | refine And.intro ?_ ?_)) <;> (first | rfl | exact svi (by omega) | exact List.mem_cons_self | exact List.mem_cons_of_mem _ List.mem_cons_self | exact List.mem_cons_of_mem _ (List.mem_cons_of_mem _ List.mem_cons_self) | skip)), ⟨hkl, hF, ?_⟩, by omega⟩
    rw [hstep, if_neg (fun e => h1' e.1)]
    exact hM
end Go.Proofs.Tab
