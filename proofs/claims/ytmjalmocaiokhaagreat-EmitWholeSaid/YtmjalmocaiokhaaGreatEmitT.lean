/- Package emit: the table of the kinds of nodes. No condition. -/
import Derived.Test.YtmjalmocaiokhaaGreatEmitO
set_option linter.unusedVariables false
set_option linter.unusedSimpArgs false
set_option maxRecDepth 100000
namespace Go.Proofs.Tab
open Go Go.Fw

def PT (tr : Nat) (base : Int → Option (Nat × List Value)) (m : Int → Option Int) (w : World) : Prop :=
  ∃ f : Int → Option (Nat × List Value), HM w tr (fun n => Value.int .i8 n) funR f ∧ ∀ op, (m op = none → f op = base op) ∧ ∀ c, m op = some c → ∃ r, f op = some (67, [pt r]) ∧ HB w r 5 [.int .u8 c]
theorem PT.fr0 {tr : Nat} {base : Int → Option (Nat × List Value)} {m : Int → Option Int} {w w' : World} (h : PT tr base m w) (hf : Fr [] w w') : PT tr base m w' := by
  obtain ⟨f, h1, h2⟩ := h
  exact ⟨f, h1.fr0 hf, fun op => ⟨(h2 op).1, fun c hc => by obtain ⟨r, a, b⟩ := (h2 op).2 c hc; exact ⟨r, a, b.fr0 hf⟩⟩⟩

theorem plain_def {tr rt : Nat} {base : Int → Option (Nat × List Value)} {m : Int → Option Int} {w : World} (h : PT tr base m w) (ht : HB w rt 87 [.map (some tr)]) (op code : Int) :
    Ret Tryz.prog 66 [.int .i8 op, .int .u8 code, pt rt] w [tr] fun v w' => v = .tuple #[] ∧ PT tr base (setF m op (some code)) w' := by
  refine fn_go (cx_ok 9 [4]) wideOrders Tryz.func66 rfl rfl Tryz.call66 (by simp [cx]) ?_; conv => whnf
  refine EvNew.blk fun r4 w1 hr4 hz4 hF1 hB1 => ?_
  conv => whnf
  refine EvLd.blk0 (ht.fr0 hF1) rfl ?_
  conv => whnf
  obtain ⟨f, h1, h2⟩ := h.fr0 hF1
  refine EvDo.upd (b := (67, [pt r4])) (cx_ok 0 []) rfl (KeyCls.int rfl) (Ky.int .i8) h1 op (show funR _ _ from rfl) (by simp [rsOf]) fun w2 hF2 hM2 => ?_
  conv => whnf
  refine ⟨hF1.nil.trans hF2, rfl, _, hM2, fun o => ?_⟩
  have hne : ∀ {r : Nat} {cs : List Value}, HB w1 r 5 cs → r ∉ [tr] := fun hb => by simp; exact (h1.ne_cells hb).symm
  by_cases ho : o = op
  · subst ho
    rw [setF_self, setF_self]
    refine ⟨fun e => (by cases e), fun c hc => ?_⟩
    injection hc with hc; subst hc
    exact ⟨r4, rfl, hB1.fr hF2 (hne hB1)⟩
  · rw [setF_ne _ _ ho, setF_ne _ _ ho]
    refine ⟨(h2 o).1, fun c hc => ?_⟩
    obtain ⟨r, a, b⟩ := (h2 o).2 c hc
    exact ⟨r, a, b.fr hF2 (hne b)⟩

def tab0 : List (Int × Nat) := [(10, 52), (30, 54), (33, 56), (36, 57), (37, 58), (38, 59), (39, 59),
  (50, 60), (13, 61), (16, 61), (14, 62), (15, 63), (49, 64), (19, 65)]
def baseF (l : List (Int × Nat)) : Int → Option (Nat × List Value) := l.foldl (fun f p => setF f p.1 (some (p.2, []))) (fun _ => none)
def cmpC : List Int := [19, 20, 21, 22, 10, 11, 12, 13, 14]
def loopM (k : Nat) : Int → Option Int := fun op => if 40 ≤ op ∧ op < 40 + k then cmpC[(op - 40).toNat]? else none

theorem table_ok (w : World) : Ret Tryz.prog 38 [] w [] fun v w' => ∃ tr, v = .map (some tr) ∧ w.heap.size ≤ tr ∧ ∀ B, w'.heap.size ≤ B → TabOk B tr w' := by
  refine fn_go (cx_ok 55 [1, 5]) wideOrders Tryz.func38 rfl rfl Tryz.call38 (by simp [cx]) ?_; conv => whnf
  refine EvPrim.mkMap (ek := fun n : Int => Value.int .i8 n) (R := funR) fun tr w1 htr hz1 hF1 hM => ?_
  conv => whnf
  have hF := hF1
  refine EvDo.upd (b := (52, [])) (cx_ok 0 []) rfl (KeyCls.int rfl) (Ky.int .i8) hM 10 rfl (by simp [rsOf]) fun w2 hFx hMx => ?_
  replace hF := hF.trans' hFx (by simp; omega)
  clear hM
  have hM := hMx
  clear hMx hFx
  conv => whnf
  refine EvDo.upd (b := (54, [])) (cx_ok 0 []) rfl (KeyCls.int rfl) (Ky.int .i8) hM 30 rfl (by simp [rsOf]) fun w2 hFx hMx => ?_
  replace hF := hF.trans' hFx (by simp; omega)
  clear hM
  have hM := hMx
  clear hMx hFx
  conv => whnf
  refine EvDo.upd (b := (56, [])) (cx_ok 0 []) rfl (KeyCls.int rfl) (Ky.int .i8) hM 33 rfl (by simp [rsOf]) fun w2 hFx hMx => ?_
  replace hF := hF.trans' hFx (by simp; omega)
  clear hM
  have hM := hMx
  clear hMx hFx
  conv => whnf
  refine EvDo.upd (b := (57, [])) (cx_ok 0 []) rfl (KeyCls.int rfl) (Ky.int .i8) hM 36 rfl (by simp [rsOf]) fun w2 hFx hMx => ?_
  replace hF := hF.trans' hFx (by simp; omega)
  clear hM
  have hM := hMx
  clear hMx hFx
  conv => whnf
  refine EvDo.upd (b := (58, [])) (cx_ok 0 []) rfl (KeyCls.int rfl) (Ky.int .i8) hM 37 rfl (by simp [rsOf]) fun w2 hFx hMx => ?_
  replace hF := hF.trans' hFx (by simp; omega)
  clear hM
  have hM := hMx
  clear hMx hFx
  conv => whnf
  refine EvDo.upd (b := (59, [])) (cx_ok 0 []) rfl (KeyCls.int rfl) (Ky.int .i8) hM 38 rfl (by simp [rsOf]) fun w2 hFx hMx => ?_
  replace hF := hF.trans' hFx (by simp; omega)
  clear hM
  have hM := hMx
  clear hMx hFx
  conv => whnf
  refine EvDo.upd (b := (59, [])) (cx_ok 0 []) rfl (KeyCls.int rfl) (Ky.int .i8) hM 39 rfl (by simp [rsOf]) fun w2 hFx hMx => ?_
  replace hF := hF.trans' hFx (by simp; omega)
  clear hM
  have hM := hMx
  clear hMx hFx
  conv => whnf
  refine EvDo.upd (b := (60, [])) (cx_ok 0 []) rfl (KeyCls.int rfl) (Ky.int .i8) hM 50 rfl (by simp [rsOf]) fun w2 hFx hMx => ?_
  replace hF := hF.trans' hFx (by simp; omega)
  clear hM
  have hM := hMx
  clear hMx hFx
  conv => whnf
  refine EvDo.upd (b := (61, [])) (cx_ok 0 []) rfl (KeyCls.int rfl) (Ky.int .i8) hM 13 rfl (by simp [rsOf]) fun w2 hFx hMx => ?_
  replace hF := hF.trans' hFx (by simp; omega)
  clear hM
  have hM := hMx
  clear hMx hFx
  conv => whnf
  refine EvDo.upd (b := (61, [])) (cx_ok 0 []) rfl (KeyCls.int rfl) (Ky.int .i8) hM 16 rfl (by simp [rsOf]) fun w2 hFx hMx => ?_
  replace hF := hF.trans' hFx (by simp; omega)
  clear hM
  have hM := hMx
  clear hMx hFx
  conv => whnf
  refine EvDo.upd (b := (62, [])) (cx_ok 0 []) rfl (KeyCls.int rfl) (Ky.int .i8) hM 14 rfl (by simp [rsOf]) fun w2 hFx hMx => ?_
  replace hF := hF.trans' hFx (by simp; omega)
  clear hM
  have hM := hMx
  clear hMx hFx
  conv => whnf
  refine EvDo.upd (b := (63, [])) (cx_ok 0 []) rfl (KeyCls.int rfl) (Ky.int .i8) hM 15 rfl (by simp [rsOf]) fun w2 hFx hMx => ?_
  replace hF := hF.trans' hFx (by simp; omega)
  clear hM
  have hM := hMx
  clear hMx hFx
  conv => whnf
  refine EvDo.upd (b := (64, [])) (cx_ok 0 []) rfl (KeyCls.int rfl) (Ky.int .i8) hM 49 rfl (by simp [rsOf]) fun w2 hFx hMx => ?_
  replace hF := hF.trans' hFx (by simp; omega)
  clear hM
  have hM := hMx
  clear hMx hFx
  conv => whnf
  refine EvDo.upd (b := (65, [])) (cx_ok 0 []) rfl (KeyCls.int rfl) (Ky.int .i8) hM 19 rfl (by simp [rsOf]) fun w2 hFx hMx => ?_
  replace hF := hF.trans' hFx (by simp; omega)
  clear hM
  have hM := hMx
  clear hMx hFx
  conv => whnf
  have hM0 : PT tr (baseF tab0) (loopM 0) w2 := ⟨_, hM, fun op => ⟨fun _ => rfl, fun c hc => by unfold loopM at hc; rw [if_neg (by omega)] at hc; cases hc⟩⟩
  have htl := hM.lt
  refine EvNew.blk fun rt w3 hrt hz3 hF3 hB3 => ?_
  conv => whnf
  refine EvSt.blk0 hB3 rfl rfl (by simp [rsOf]) fun w4 hF4 hB4 => ?_
  have hF24 : Fr [] w2 w4 := hF3.trans' hF4 (by simp; omega)
  have hM4 := hM0.fr0 hF24
  replace hF := hF.trans hF24
  conv => whnf
  refine EvNew.blk fun rc w5 hrc hz5 hF5 hB5 => ?_
  have hF0 := hF.trans hF5
  have hM5 := hM4.fr0 hF5
  have ht5 := hB4.fr0 hF5
  have hrtt : rt ∉ [tr] := by simp; omega
  have hrct : rc ∉ [tr] := by have := hF24.size; simp; omega
  conv => whnf
  refine EvLoop.go Nat (fun k => ⟨[(1, .v (pt rt)), (2, .v (.func (.func 66) #[] #[pt rt])), (23, .v (.slice (some ⟨rc, 0, none⟩) 9 9)), (24, .v (.int .i64 ((9 : Nat) : Int))), (25, .v (.int .i64 k))], [], 0⟩)
    (fun k w' => k ≤ 9 ∧ Fr [] w w' ∧ PT tr (baseF tab0) (loopM k) w' ∧ HB w' rt 87 [.map (some tr)] ∧ HB w' rc 5 (cmpC.map fun n => .int .u8 n)) (fun k => 9 - k) 0 (by (refine SubS.mk ?_ ?_ <;> (repeat' (first | exact True.intro | refine And.intro ?_ ?_)) <;> (first | rfl | exact svi (by omega) | exact List.mem_cons_self | exact List.mem_cons_of_mem _ List.mem_cons_self | exact List.mem_cons_of_mem _ (List.mem_cons_of_mem _ List.mem_cons_self) | skip))) ⟨by omega, hF0, hM5, ht5, hB5⟩ ?_
  rintro k w6 ⟨hk, hF, hM, ht, hB⟩
  conv => whnf
  refine EvIf.lt (fun g => ?_) (fun g => ?_)
  · have hk9 : k < 9 := by omega
    conv => whnf
    refine EvIdx.one (by omega) (by omega) rfl ?_
    rw [Int.toNat_natCast]
    conv => whnf
    refine EvLd.blk hB (by rw [List.getElem?_map, List.getElem?_eq_getElem (show k < cmpC.length from hk9)]; rfl) ?_
    conv => whnf
    refine EvAr.i8 (by omega) ?_
    conv => whnf
    refine EvAr.i8 (by omega) ?_
    conv => whnf
    refine EvCall.ret (plain_def hM ht (40 + (k : Int)) cmpC[k]) (by simp [rsOf]) fun v w7 hF7 hq => ?_
    obtain ⟨rfl, hM7⟩ := hq
    conv => whnf
    refine EvAr.i64 (by omega) ?_; conv => whnf
    refine ⟨k + 1, by (refine SubS.mk ?_ ?_ <;> (repeat' (first | exact True.intro | refine And.intro ?_ ?_)) <;> (first | rfl | exact svi (by omega) | exact List.mem_cons_self | exact List.mem_cons_of_mem _ List.mem_cons_self | exact List.mem_cons_of_mem _ (List.mem_cons_of_mem _ List.mem_cons_self) | skip)), ⟨hk9, hF.trans' hF7 (by simp; omega), ?_, ht.fr hF7 hrtt, hB.fr hF7 hrct⟩, by omega⟩
    have e : setF (loopM k) (40 + (k : Int)) (some cmpC[k]) = loopM (k + 1) := by
      funext op
      unfold setF loopM
      by_cases ho : op = 40 + (k : Int)
      · subst ho
        rw [if_pos rfl, if_pos (by omega), show (40 + (k : Int) - 40).toNat = k by omega, List.getElem?_eq_getElem (show k < cmpC.length from hk9)]
        rfl
      · rw [if_neg ho]
        by_cases h2 : 40 ≤ op ∧ op < 40 + k
        · rw [if_pos h2, if_pos (by omega)]
        · rw [if_neg h2, if_neg (by omega)]
    rw [← e]
    exact hM7
  · obtain rfl : k = 9 := by omega
    conv => whnf
    refine EvCall.ret (plain_def hM ht 34 23) (by simp [rsOf]) fun v w7 hFx hq => ?_
    obtain ⟨rfl, hMx⟩ := hq
    replace hF := hF.trans' hFx (by simp; omega)
    replace ht := ht.fr hFx hrtt
    clear hM hFx
    have hM := hMx
    clear hMx
    conv => whnf
    refine EvCall.ret (plain_def hM ht 35 15) (by simp [rsOf]) fun v w7 hFx hq => ?_
    obtain ⟨rfl, hMx⟩ := hq
    replace hF := hF.trans' hFx (by simp; omega)
    replace ht := ht.fr hFx hrtt
    clear hM hFx
    have hM := hMx
    clear hMx
    conv => whnf
    refine EvCall.ret (plain_def hM ht 31 2) (by simp [rsOf]) fun v w7 hFx hq => ?_
    obtain ⟨rfl, hMx⟩ := hq
    replace hF := hF.trans' hFx (by simp; omega)
    replace ht := ht.fr hFx hrtt
    clear hM hFx
    have hM := hMx
    clear hMx
    conv => whnf
    refine EvCall.ret (plain_def hM ht 32 3) (by simp [rsOf]) fun v w7 hFx hq => ?_
    obtain ⟨rfl, hMx⟩ := hq
    replace hF := hF.trans' hFx (by simp; omega)
    replace ht := ht.fr hFx hrtt
    clear hM hFx
    have hM := hMx
    clear hMx
    conv => whnf
    refine EvCall.ret (plain_def hM ht 17 34) (by simp [rsOf]) fun v w7 hFx hq => ?_
    obtain ⟨rfl, hMx⟩ := hq
    replace hF := hF.trans' hFx (by simp; omega)
    replace ht := ht.fr hFx hrtt
    clear hM hFx
    have hM := hMx
    clear hMx
    conv => whnf
    refine EvCall.ret (plain_def hM ht 18 35) (by simp [rsOf]) fun v w7 hFx hq => ?_
    obtain ⟨rfl, hMx⟩ := hq
    replace hF := hF.trans' hFx (by simp; omega)
    replace ht := ht.fr hFx hrtt
    clear hM hFx
    have hM := hMx
    clear hMx
    conv => whnf
    refine EvNew.blk fun r5 w8 hr5 hz8 hF8 hB8 => ?_
    have hs7 := hF.size
    have hrt7 := ht.lt
    have htr7 : tr < r5 := by obtain ⟨f, hMf, _⟩ := hM; have := hMf.lt; omega
    replace hM := hM.fr0 hF8
    replace ht := ht.fr0 hF8
    replace hF := hF.trans hF8
    conv => whnf
    refine EvDo.storeBlk (vs := [.func (.func 68) #[] #[]]) (cx_ok 0 []) rfl hB8 rfl rfl (by simp [Value.oneCell']) (by simp [rsOf]) fun w9 hF9 hB9 => ?_
    have htl8 := ht.lt
    have hF89 : Fr [r5] w8 w9 := hF9
    obtain ⟨f, hMf, hf⟩ := hM
    have hne5 : r5 ∉ [tr] := by simp; omega
    replace hMf := hMf.fr hF89 (by simp; omega)
    replace ht := ht.fr hF89 (by simp; omega)
    have hf9 : ∀ op c, setF (setF (setF (setF (setF (setF (loopM 9) 34 (some 23)) 35 (some 15)) 31 (some 2)) 32 (some 3)) 17 (some 34)) 18 (some 35) op = some c → ∃ r, f op = some (67, [pt r]) ∧ HB w9 r 5 [.int .u8 c] := fun op c hc => by
      obtain ⟨r, a, b⟩ := (hf op).2 c hc
      have hl := b.lt
      exact ⟨r, a, b.fr hF89 (by simp; exact b.ne_ty hB8 (by decide))⟩
    replace hF := hF.trans' hF89 (by simp; omega)
    conv => whnf
    refine EvDraw.go (fun w' => HB w' rt 87 [.map (some tr)] ∧ HB w' r5 110 [.func (.func 68) #[] #[]]) (some 5) (.take 0 true (.take 1 true (.take 2 true (.take 3 true (.exec 4 (.exec 5 .done)))))) (by kernel_rfl) ?_ ?_
    · exact ⟨ht.fr0 (Fr.drew _), hB9.fr0 (Fr.drew _)⟩
    have hFd := Fr.drew w9
    conv => whnf
    refine ⟨_, fun w' hw => hw.1.1.cell rfl, ?_⟩
    conv => whnf
    refine ⟨_, fun w' hw => hw.1.1.cell rfl, ?_⟩
    conv => whnf
    refine ⟨_, rfl, fun w' hw j v hj => hw.1.2.add0 hj, ?_⟩
    conv => whnf
    refine ⟨_, rfl, fun w' hw j v hj => hw.1.2.add0 hj, ?_⟩
    conv => whnf
    refine EvDo.upd (b := (68, [])) (cx_ok 0 []) rfl (KeyCls.int rfl) (Ky.int .i8) (hMf.fr0 hFd) 11 rfl (by simp [rsOf]) fun w10 hF10 hM10 => ?_
    have hne : ∀ {r T : Nat} {cs : List Value} {w' : World}, HB w' r T cs → HM w' tr (fun n => Value.int .i8 n) funR f → r ∉ [tr] := fun hb hm => by simp; exact (hm.ne_cells hb).symm
    have ht10 := (ht.fr0 hFd).fr hF10 (hne (ht.fr0 hFd) (hMf.fr0 hFd))
    have h510 := (hB9.fr0 hFd).fr hF10 (hne (hB9.fr0 hFd) (hMf.fr0 hFd))
    conv => whnf
    refine ⟨⟨ht10, h510⟩, ?_⟩
    conv => whnf
    refine EvDo.upd (b := (68, [])) (cx_ok 0 []) rfl (KeyCls.int rfl) (Ky.int .i8) hM10 12 rfl (by simp [rsOf]) fun w11 hF11 hM11 => ?_
    conv => whnf
    have hne11 : ∀ {r T : Nat} {cs : List Value}, HB w10 r T cs → r ∉ [tr] := fun hb => by simp; exact (hM10.ne_cells hb).symm
    refine EvLd.blk0 (ht10.fr hF11 (hne11 ht10)) rfl ?_
    conv => whnf
    have hFe : Fr [] w w11 := ((hF.trans hFd).trans' hF10 (by simp; omega)).trans' hF11 (by simp; omega)
    refine ⟨hFe, tr, rfl, by omega, fun B hB0 => ⟨_, hM11, ?_, ?_⟩⟩
    · intro op g hg
      have hb : ∀ o : Int, o ≠ 11 → o ≠ 12 → setF (setF (setF (setF (setF (setF (loopM 9) 34 (some 23)) 35 (some 15)) 31 (some 2)) 32 (some 3)) 17 (some 34)) 18 (some 35) o = none → setF (setF f 11 (some (68, []))) 12 (some (68, [])) o = baseF tab0 o := fun o h1 h2 h3 => by
        rw [setF_ne _ _ h2, setF_ne _ _ h1]
        exact (hf o).1 h3
      unfold tabF at hg
      by_cases c10 : op = 10
      · rw [if_pos c10] at hg; injection hg with hg; subst hg
        subst c10
        rw [hb _ (by decide) (by decide) rfl]; rfl
      rw [if_neg c10] at hg
      by_cases c30 : op = 30
      · rw [if_pos c30] at hg; injection hg with hg; subst hg
        subst c30
        rw [hb _ (by decide) (by decide) rfl]; rfl
      rw [if_neg c30] at hg
      by_cases c33 : op = 33
      · rw [if_pos c33] at hg; injection hg with hg; subst hg
        subst c33
        rw [hb _ (by decide) (by decide) rfl]; rfl
      rw [if_neg c33] at hg
      by_cases c36 : op = 36
      · rw [if_pos c36] at hg; injection hg with hg; subst hg
        subst c36
        rw [hb _ (by decide) (by decide) rfl]; rfl
      rw [if_neg c36] at hg
      by_cases c37 : op = 37
      · rw [if_pos c37] at hg; injection hg with hg; subst hg
        subst c37
        rw [hb _ (by decide) (by decide) rfl]; rfl
      rw [if_neg c37] at hg
      by_cases c38 : op = 38 ∨ op = 39
      · rw [if_pos c38] at hg; injection hg with hg; subst hg
        rcases c38 with rfl | rfl <;> (rw [hb _ (by decide) (by decide) rfl]; rfl)
      rw [if_neg c38] at hg
      by_cases c50 : op = 50
      · rw [if_pos c50] at hg; injection hg with hg; subst hg
        subst c50
        rw [hb _ (by decide) (by decide) rfl]; rfl
      rw [if_neg c50] at hg
      by_cases c13 : op = 13 ∨ op = 16
      · rw [if_pos c13] at hg; injection hg with hg; subst hg
        rcases c13 with rfl | rfl <;> (rw [hb _ (by decide) (by decide) rfl]; rfl)
      rw [if_neg c13] at hg
      by_cases c14 : op = 14
      · rw [if_pos c14] at hg; injection hg with hg; subst hg
        subst c14
        rw [hb _ (by decide) (by decide) rfl]; rfl
      rw [if_neg c14] at hg
      by_cases c15 : op = 15
      · rw [if_pos c15] at hg; injection hg with hg; subst hg
        subst c15
        rw [hb _ (by decide) (by decide) rfl]; rfl
      rw [if_neg c15] at hg
      by_cases c49 : op = 49
      · rw [if_pos c49] at hg; injection hg with hg; subst hg
        subst c49
        rw [hb _ (by decide) (by decide) rfl]; rfl
      rw [if_neg c49] at hg
      by_cases c19 : op = 19
      · rw [if_pos c19] at hg; injection hg with hg; subst hg
        subst c19
        rw [hb _ (by decide) (by decide) rfl]; rfl
      rw [if_neg c19] at hg
      by_cases c11 : op = 11 ∨ op = 12
      · rw [if_pos c11] at hg; injection hg with hg; subst hg
        rcases c11 with rfl | rfl
        · rw [setF_ne _ _ (by decide), setF_self]
        · rw [setF_self]
      rw [if_neg c11] at hg; cases hg
    · intro op c hn hc
      have h11 : ¬ (op = 11 ∨ op = 12) := fun e => by
        rcases e with rfl | rfl
        · exact absurd hn (by decide)
        · exact absurd hn (by decide)
      rw [setF_ne _ _ (fun e => h11 (.inr e)), setF_ne _ _ (fun e => h11 (.inl e))]
      have hm : setF (setF (setF (setF (setF (setF (loopM 9) 34 (some 23)) 35 (some 15)) 31 (some 2)) 32 (some 3)) 17 (some 34)) 18 (some 35) op = some c := by
        unfold plainC at hc
        by_cases c40 : op = 40
        · rw [if_pos c40] at hc; injection hc with hc; subst hc c40; rfl
        rw [if_neg c40] at hc
        by_cases c41 : op = 41
        · rw [if_pos c41] at hc; injection hc with hc; subst hc c41; rfl
        rw [if_neg c41] at hc
        by_cases c42 : op = 42
        · rw [if_pos c42] at hc; injection hc with hc; subst hc c42; rfl
        rw [if_neg c42] at hc
        by_cases c43 : op = 43
        · rw [if_pos c43] at hc; injection hc with hc; subst hc c43; rfl
        rw [if_neg c43] at hc
        by_cases c44 : op = 44
        · rw [if_pos c44] at hc; injection hc with hc; subst hc c44; rfl
        rw [if_neg c44] at hc
        by_cases c45 : op = 45
        · rw [if_pos c45] at hc; injection hc with hc; subst hc c45; rfl
        rw [if_neg c45] at hc
        by_cases c46 : op = 46
        · rw [if_pos c46] at hc; injection hc with hc; subst hc c46; rfl
        rw [if_neg c46] at hc
        by_cases c47 : op = 47
        · rw [if_pos c47] at hc; injection hc with hc; subst hc c47; rfl
        rw [if_neg c47] at hc
        by_cases c48 : op = 48
        · rw [if_pos c48] at hc; injection hc with hc; subst hc c48; rfl
        rw [if_neg c48] at hc
        by_cases c34 : op = 34
        · rw [if_pos c34] at hc; injection hc with hc; subst hc c34; rfl
        rw [if_neg c34] at hc
        by_cases c35 : op = 35
        · rw [if_pos c35] at hc; injection hc with hc; subst hc c35; rfl
        rw [if_neg c35] at hc
        by_cases c31 : op = 31
        · rw [if_pos c31] at hc; injection hc with hc; subst hc c31; rfl
        rw [if_neg c31] at hc
        by_cases c32 : op = 32
        · rw [if_pos c32] at hc; injection hc with hc; subst hc c32; rfl
        rw [if_neg c32] at hc
        by_cases c17 : op = 17
        · rw [if_pos c17] at hc; injection hc with hc; subst hc c17; rfl
        rw [if_neg c17] at hc
        by_cases c18 : op = 18
        · rw [if_pos c18] at hc; injection hc with hc; subst hc c18; rfl
        rw [if_neg c18] at hc
        cases hc
      obtain ⟨r, a, b⟩ := hf9 op c hm
      have b' := (b.fr0 hFd).fr hF10 (hne (b.fr0 hFd) (hMf.fr0 hFd))
      have b'' := b'.fr hF11 (hne11 b')
      exact ⟨r, a, by have := b''.lt; omega, b''⟩
end Go.Proofs.Tab
