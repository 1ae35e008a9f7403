/- Package code: reading. No condition. -/
import Derived.Test.YtmjalmocaiokhaaGreatPools
import Derived.Test.YtmjalmocaiokhaaGreatEmitW
import Derived.Laws.BitsLemmas
set_option linter.unusedVariables false
set_option linter.unusedSimpArgs false
set_option maxRecDepth 100000
namespace Go.Proofs.Tab
open Go Go.Fw

/-- What kind of operands an opcode has. -/
def kindO (op : Int) : Option Int :=
  if op = 1 ∨ op = 30 ∨ op = 31 ∨ op = 33 ∨ op = 45 then some 2
  else if op = 4 ∨ op = 5 ∨ op = 24 ∨ op = 41 ∨ op = 46 ∨ op = 60 then some 1
  else if op = 32 then some 3
  else if op = 2 ∨ op = 3 ∨ (10 ≤ op ∧ op ≤ 23) ∨ op = 34 ∨ op = 35 ∨ op = 40 ∨ op = 42 ∨ op = 43 ∨ op = 44 then some 0
  else none
def szK (k : Int) : Nat := if k = 1 then 1 else if k = 2 then 2 else if k = 3 then 4 else 0
def rdF (k : Int) : Nat := if k = 1 then 105 else if k = 2 then 106 else if k = 3 then 108 else 104
theorem kindO_range {op k : Int} (h : kindO op = some k) : 0 ≤ k ∧ k < 4 := by
  unfold kindO at h
  split at h
  · injection h with h; omega
  split at h
  · injection h with h; omega
  split at h
  · injection h with h; omega
  split at h
  · injection h with h; omega
  · cases h
def frmR (p : ByteArray × Int) (v : Value) : Prop := v = .agg #[.string p.1, .int .i64 p.2, .nilFunc]
def frmL : List (Int × Int) := [(1, 2), (2, 0), (3, 0), (4, 1), (5, 1), (10, 0), (11, 0), (12, 0), (13, 0), (14, 0), (15, 0), (16, 0), (17, 0), (18, 0), (19, 0), (20, 0), (21, 0), (22, 0), (23, 0), (24, 1), (30, 2), (31, 2), (32, 3), (33, 2), (34, 0), (35, 0), (40, 0), (41, 1), (42, 0), (43, 0), (44, 0), (45, 2), (46, 1), (60, 1)]

theorem forms_ok (w : World) : Ret Tryz.prog 109 [] w [] fun v w' => ∃ r f, v = .map (some r) ∧ HM w' r (fun n : Int => Value.int .u8 n) frmR f ∧ ∀ op, (f op).map (·.2) = kindO op := by
  refine fn_go (cx_ok 37 []) wideOrders Tryz.func109 rfl rfl Tryz.call109 (by simp [cx]) ?_; conv => whnf
  refine EvPrim.mkMap (ek := fun n : Int => Value.int .u8 n) (R := frmR) fun r w1 hr hz1 hF1 hM => ?_
  conv => whnf
  have hF := hF1
  refine EvDo.upd (b := (_, 2)) (cx_ok 0 []) rfl (KeyCls.int rfl) (Ky.int .u8) hM 1 (show frmR (_, _) _ from rfl) (by simp [rsOf]) fun w2 hFx hMx => ?_
  replace hF := hF.trans' hFx (by simp; omega)
  clear hM hFx
  have hM := hMx
  clear hMx
  conv => whnf
  refine EvDo.upd (b := (_, 0)) (cx_ok 0 []) rfl (KeyCls.int rfl) (Ky.int .u8) hM 2 (show frmR (_, _) _ from rfl) (by simp [rsOf]) fun w2 hFx hMx => ?_
  replace hF := hF.trans' hFx (by simp; omega)
  clear hM hFx
  have hM := hMx
  clear hMx
  conv => whnf
  refine EvDo.upd (b := (_, 0)) (cx_ok 0 []) rfl (KeyCls.int rfl) (Ky.int .u8) hM 3 (show frmR (_, _) _ from rfl) (by simp [rsOf]) fun w2 hFx hMx => ?_
  replace hF := hF.trans' hFx (by simp; omega)
  clear hM hFx
  have hM := hMx
  clear hMx
  conv => whnf
  refine EvDo.upd (b := (_, 1)) (cx_ok 0 []) rfl (KeyCls.int rfl) (Ky.int .u8) hM 4 (show frmR (_, _) _ from rfl) (by simp [rsOf]) fun w2 hFx hMx => ?_
  replace hF := hF.trans' hFx (by simp; omega)
  clear hM hFx
  have hM := hMx
  clear hMx
  conv => whnf
  refine EvDo.upd (b := (_, 1)) (cx_ok 0 []) rfl (KeyCls.int rfl) (Ky.int .u8) hM 5 (show frmR (_, _) _ from rfl) (by simp [rsOf]) fun w2 hFx hMx => ?_
  replace hF := hF.trans' hFx (by simp; omega)
  clear hM hFx
  have hM := hMx
  clear hMx
  conv => whnf
  refine EvDo.upd (b := (_, 0)) (cx_ok 0 []) rfl (KeyCls.int rfl) (Ky.int .u8) hM 10 (show frmR (_, _) _ from rfl) (by simp [rsOf]) fun w2 hFx hMx => ?_
  replace hF := hF.trans' hFx (by simp; omega)
  clear hM hFx
  have hM := hMx
  clear hMx
  conv => whnf
  refine EvDo.upd (b := (_, 0)) (cx_ok 0 []) rfl (KeyCls.int rfl) (Ky.int .u8) hM 11 (show frmR (_, _) _ from rfl) (by simp [rsOf]) fun w2 hFx hMx => ?_
  replace hF := hF.trans' hFx (by simp; omega)
  clear hM hFx
  have hM := hMx
  clear hMx
  conv => whnf
  refine EvDo.upd (b := (_, 0)) (cx_ok 0 []) rfl (KeyCls.int rfl) (Ky.int .u8) hM 12 (show frmR (_, _) _ from rfl) (by simp [rsOf]) fun w2 hFx hMx => ?_
  replace hF := hF.trans' hFx (by simp; omega)
  clear hM hFx
  have hM := hMx
  clear hMx
  conv => whnf
  refine EvDo.upd (b := (_, 0)) (cx_ok 0 []) rfl (KeyCls.int rfl) (Ky.int .u8) hM 13 (show frmR (_, _) _ from rfl) (by simp [rsOf]) fun w2 hFx hMx => ?_
  replace hF := hF.trans' hFx (by simp; omega)
  clear hM hFx
  have hM := hMx
  clear hMx
  conv => whnf
  refine EvDo.upd (b := (_, 0)) (cx_ok 0 []) rfl (KeyCls.int rfl) (Ky.int .u8) hM 14 (show frmR (_, _) _ from rfl) (by simp [rsOf]) fun w2 hFx hMx => ?_
  replace hF := hF.trans' hFx (by simp; omega)
  clear hM hFx
  have hM := hMx
  clear hMx
  conv => whnf
  refine EvDo.upd (b := (_, 0)) (cx_ok 0 []) rfl (KeyCls.int rfl) (Ky.int .u8) hM 15 (show frmR (_, _) _ from rfl) (by simp [rsOf]) fun w2 hFx hMx => ?_
  replace hF := hF.trans' hFx (by simp; omega)
  clear hM hFx
  have hM := hMx
  clear hMx
  conv => whnf
  refine EvDo.upd (b := (_, 0)) (cx_ok 0 []) rfl (KeyCls.int rfl) (Ky.int .u8) hM 16 (show frmR (_, _) _ from rfl) (by simp [rsOf]) fun w2 hFx hMx => ?_
  replace hF := hF.trans' hFx (by simp; omega)
  clear hM hFx
  have hM := hMx
  clear hMx
  conv => whnf
  refine EvDo.upd (b := (_, 0)) (cx_ok 0 []) rfl (KeyCls.int rfl) (Ky.int .u8) hM 17 (show frmR (_, _) _ from rfl) (by simp [rsOf]) fun w2 hFx hMx => ?_
  replace hF := hF.trans' hFx (by simp; omega)
  clear hM hFx
  have hM := hMx
  clear hMx
  conv => whnf
  refine EvDo.upd (b := (_, 0)) (cx_ok 0 []) rfl (KeyCls.int rfl) (Ky.int .u8) hM 18 (show frmR (_, _) _ from rfl) (by simp [rsOf]) fun w2 hFx hMx => ?_
  replace hF := hF.trans' hFx (by simp; omega)
  clear hM hFx
  have hM := hMx
  clear hMx
  conv => whnf
  refine EvDo.upd (b := (_, 0)) (cx_ok 0 []) rfl (KeyCls.int rfl) (Ky.int .u8) hM 19 (show frmR (_, _) _ from rfl) (by simp [rsOf]) fun w2 hFx hMx => ?_
  replace hF := hF.trans' hFx (by simp; omega)
  clear hM hFx
  have hM := hMx
  clear hMx
  conv => whnf
  refine EvDo.upd (b := (_, 0)) (cx_ok 0 []) rfl (KeyCls.int rfl) (Ky.int .u8) hM 20 (show frmR (_, _) _ from rfl) (by simp [rsOf]) fun w2 hFx hMx => ?_
  replace hF := hF.trans' hFx (by simp; omega)
  clear hM hFx
  have hM := hMx
  clear hMx
  conv => whnf
  refine EvDo.upd (b := (_, 0)) (cx_ok 0 []) rfl (KeyCls.int rfl) (Ky.int .u8) hM 21 (show frmR (_, _) _ from rfl) (by simp [rsOf]) fun w2 hFx hMx => ?_
  replace hF := hF.trans' hFx (by simp; omega)
  clear hM hFx
  have hM := hMx
  clear hMx
  conv => whnf
  refine EvDo.upd (b := (_, 0)) (cx_ok 0 []) rfl (KeyCls.int rfl) (Ky.int .u8) hM 22 (show frmR (_, _) _ from rfl) (by simp [rsOf]) fun w2 hFx hMx => ?_
  replace hF := hF.trans' hFx (by simp; omega)
  clear hM hFx
  have hM := hMx
  clear hMx
  conv => whnf
  refine EvDo.upd (b := (_, 0)) (cx_ok 0 []) rfl (KeyCls.int rfl) (Ky.int .u8) hM 23 (show frmR (_, _) _ from rfl) (by simp [rsOf]) fun w2 hFx hMx => ?_
  replace hF := hF.trans' hFx (by simp; omega)
  clear hM hFx
  have hM := hMx
  clear hMx
  conv => whnf
  refine EvDo.upd (b := (_, 1)) (cx_ok 0 []) rfl (KeyCls.int rfl) (Ky.int .u8) hM 24 (show frmR (_, _) _ from rfl) (by simp [rsOf]) fun w2 hFx hMx => ?_
  replace hF := hF.trans' hFx (by simp; omega)
  clear hM hFx
  have hM := hMx
  clear hMx
  conv => whnf
  refine EvDo.upd (b := (_, 2)) (cx_ok 0 []) rfl (KeyCls.int rfl) (Ky.int .u8) hM 30 (show frmR (_, _) _ from rfl) (by simp [rsOf]) fun w2 hFx hMx => ?_
  replace hF := hF.trans' hFx (by simp; omega)
  clear hM hFx
  have hM := hMx
  clear hMx
  conv => whnf
  refine EvDo.upd (b := (_, 2)) (cx_ok 0 []) rfl (KeyCls.int rfl) (Ky.int .u8) hM 31 (show frmR (_, _) _ from rfl) (by simp [rsOf]) fun w2 hFx hMx => ?_
  replace hF := hF.trans' hFx (by simp; omega)
  clear hM hFx
  have hM := hMx
  clear hMx
  conv => whnf
  refine EvDo.upd (b := (_, 3)) (cx_ok 0 []) rfl (KeyCls.int rfl) (Ky.int .u8) hM 32 (show frmR (_, _) _ from rfl) (by simp [rsOf]) fun w2 hFx hMx => ?_
  replace hF := hF.trans' hFx (by simp; omega)
  clear hM hFx
  have hM := hMx
  clear hMx
  conv => whnf
  refine EvDo.upd (b := (_, 2)) (cx_ok 0 []) rfl (KeyCls.int rfl) (Ky.int .u8) hM 33 (show frmR (_, _) _ from rfl) (by simp [rsOf]) fun w2 hFx hMx => ?_
  replace hF := hF.trans' hFx (by simp; omega)
  clear hM hFx
  have hM := hMx
  clear hMx
  conv => whnf
  refine EvDo.upd (b := (_, 0)) (cx_ok 0 []) rfl (KeyCls.int rfl) (Ky.int .u8) hM 34 (show frmR (_, _) _ from rfl) (by simp [rsOf]) fun w2 hFx hMx => ?_
  replace hF := hF.trans' hFx (by simp; omega)
  clear hM hFx
  have hM := hMx
  clear hMx
  conv => whnf
  refine EvDo.upd (b := (_, 0)) (cx_ok 0 []) rfl (KeyCls.int rfl) (Ky.int .u8) hM 35 (show frmR (_, _) _ from rfl) (by simp [rsOf]) fun w2 hFx hMx => ?_
  replace hF := hF.trans' hFx (by simp; omega)
  clear hM hFx
  have hM := hMx
  clear hMx
  conv => whnf
  refine EvDo.upd (b := (_, 0)) (cx_ok 0 []) rfl (KeyCls.int rfl) (Ky.int .u8) hM 40 (show frmR (_, _) _ from rfl) (by simp [rsOf]) fun w2 hFx hMx => ?_
  replace hF := hF.trans' hFx (by simp; omega)
  clear hM hFx
  have hM := hMx
  clear hMx
  conv => whnf
  refine EvDo.upd (b := (_, 1)) (cx_ok 0 []) rfl (KeyCls.int rfl) (Ky.int .u8) hM 41 (show frmR (_, _) _ from rfl) (by simp [rsOf]) fun w2 hFx hMx => ?_
  replace hF := hF.trans' hFx (by simp; omega)
  clear hM hFx
  have hM := hMx
  clear hMx
  conv => whnf
  refine EvDo.upd (b := (_, 0)) (cx_ok 0 []) rfl (KeyCls.int rfl) (Ky.int .u8) hM 42 (show frmR (_, _) _ from rfl) (by simp [rsOf]) fun w2 hFx hMx => ?_
  replace hF := hF.trans' hFx (by simp; omega)
  clear hM hFx
  have hM := hMx
  clear hMx
  conv => whnf
  refine EvDo.upd (b := (_, 0)) (cx_ok 0 []) rfl (KeyCls.int rfl) (Ky.int .u8) hM 43 (show frmR (_, _) _ from rfl) (by simp [rsOf]) fun w2 hFx hMx => ?_
  replace hF := hF.trans' hFx (by simp; omega)
  clear hM hFx
  have hM := hMx
  clear hMx
  conv => whnf
  refine EvDo.upd (b := (_, 0)) (cx_ok 0 []) rfl (KeyCls.int rfl) (Ky.int .u8) hM 44 (show frmR (_, _) _ from rfl) (by simp [rsOf]) fun w2 hFx hMx => ?_
  replace hF := hF.trans' hFx (by simp; omega)
  clear hM hFx
  have hM := hMx
  clear hMx
  conv => whnf
  refine EvDo.upd (b := (_, 2)) (cx_ok 0 []) rfl (KeyCls.int rfl) (Ky.int .u8) hM 45 (show frmR (_, _) _ from rfl) (by simp [rsOf]) fun w2 hFx hMx => ?_
  replace hF := hF.trans' hFx (by simp; omega)
  clear hM hFx
  have hM := hMx
  clear hMx
  conv => whnf
  refine EvDo.upd (b := (_, 1)) (cx_ok 0 []) rfl (KeyCls.int rfl) (Ky.int .u8) hM 46 (show frmR (_, _) _ from rfl) (by simp [rsOf]) fun w2 hFx hMx => ?_
  replace hF := hF.trans' hFx (by simp; omega)
  clear hM hFx
  have hM := hMx
  clear hMx
  conv => whnf
  refine EvDo.upd (b := (_, 1)) (cx_ok 0 []) rfl (KeyCls.int rfl) (Ky.int .u8) hM 60 (show frmR (_, _) _ from rfl) (by simp [rsOf]) fun w2 hFx hMx => ?_
  replace hF := hF.trans' hFx (by simp; omega)
  clear hM hFx
  have hM := hMx
  clear hMx
  conv => whnf
  refine ⟨hF, r, _, rfl, hM, fun op => ?_⟩
  by_cases c60 : op = 60
  · subst c60; rfl
  rw [setF_ne _ _ c60]
  by_cases c46 : op = 46
  · subst c46; rfl
  rw [setF_ne _ _ c46]
  by_cases c45 : op = 45
  · subst c45; rfl
  rw [setF_ne _ _ c45]
  by_cases c44 : op = 44
  · subst c44; rfl
  rw [setF_ne _ _ c44]
  by_cases c43 : op = 43
  · subst c43; rfl
  rw [setF_ne _ _ c43]
  by_cases c42 : op = 42
  · subst c42; rfl
  rw [setF_ne _ _ c42]
  by_cases c41 : op = 41
  · subst c41; rfl
  rw [setF_ne _ _ c41]
  by_cases c40 : op = 40
  · subst c40; rfl
  rw [setF_ne _ _ c40]
  by_cases c35 : op = 35
  · subst c35; rfl
  rw [setF_ne _ _ c35]
  by_cases c34 : op = 34
  · subst c34; rfl
  rw [setF_ne _ _ c34]
  by_cases c33 : op = 33
  · subst c33; rfl
  rw [setF_ne _ _ c33]
  by_cases c32 : op = 32
  · subst c32; rfl
  rw [setF_ne _ _ c32]
  by_cases c31 : op = 31
  · subst c31; rfl
  rw [setF_ne _ _ c31]
  by_cases c30 : op = 30
  · subst c30; rfl
  rw [setF_ne _ _ c30]
  by_cases c24 : op = 24
  · subst c24; rfl
  rw [setF_ne _ _ c24]
  by_cases c23 : op = 23
  · subst c23; rfl
  rw [setF_ne _ _ c23]
  by_cases c22 : op = 22
  · subst c22; rfl
  rw [setF_ne _ _ c22]
  by_cases c21 : op = 21
  · subst c21; rfl
  rw [setF_ne _ _ c21]
  by_cases c20 : op = 20
  · subst c20; rfl
  rw [setF_ne _ _ c20]
  by_cases c19 : op = 19
  · subst c19; rfl
  rw [setF_ne _ _ c19]
  by_cases c18 : op = 18
  · subst c18; rfl
  rw [setF_ne _ _ c18]
  by_cases c17 : op = 17
  · subst c17; rfl
  rw [setF_ne _ _ c17]
  by_cases c16 : op = 16
  · subst c16; rfl
  rw [setF_ne _ _ c16]
  by_cases c15 : op = 15
  · subst c15; rfl
  rw [setF_ne _ _ c15]
  by_cases c14 : op = 14
  · subst c14; rfl
  rw [setF_ne _ _ c14]
  by_cases c13 : op = 13
  · subst c13; rfl
  rw [setF_ne _ _ c13]
  by_cases c12 : op = 12
  · subst c12; rfl
  rw [setF_ne _ _ c12]
  by_cases c11 : op = 11
  · subst c11; rfl
  rw [setF_ne _ _ c11]
  by_cases c10 : op = 10
  · subst c10; rfl
  rw [setF_ne _ _ c10]
  by_cases c5 : op = 5
  · subst c5; rfl
  rw [setF_ne _ _ c5]
  by_cases c4 : op = 4
  · subst c4; rfl
  rw [setF_ne _ _ c4]
  by_cases c3 : op = 3
  · subst c3; rfl
  rw [setF_ne _ _ c3]
  by_cases c2 : op = 2
  · subst c2; rfl
  rw [setF_ne _ _ c2]
  by_cases c1 : op = 1
  · subst c1; rfl
  rw [setF_ne _ _ c1]
  unfold kindO
  rw [if_neg (by omega), if_neg (by omega), if_neg (by omega), if_neg (by omega)]
  rfl

theorem look_form {w : World} {r : Nat} {f : Int → Option (ByteArray × Int)} (h : HM w r (fun n : Int => Value.int .u8 n) frmR f) (op : Int) :
    ∃ nm k ok fv, (Instr.lookup 157 (.map (some r)) (.int .u8 op) true).run Tryz.prog w = .ok (.tuple #[.agg #[.string nm, .int .i64 k, fv], .bool ok]) w ∧ ((ok = true ∧ (f op).map (·.2) = some k ∧ fv = .nilFunc) ∨ (ok = false ∧ f op = none ∧ fv = .nilFunc)) := by
  obtain ⟨es, c, h1, h2, h3, _, _, h4⟩ := h.find (Ky.int .u8) op
  have hk : KeyCls (cx 0 []) 5 (.int .u8) := KeyCls.int rfl
  have hku := hk.und (cx_ok 0 [])
  have ht : ((cx 0 []).ty 157).cls = .map 5 115 := rfl
  rcases h4 with ⟨g1, g2, _⟩ | ⟨j, e, b, g1, g2, g3, g4, g5⟩
  · have hz : (zeroValue 115).run Tryz.prog w = .ok (.agg #[.string ⟨#[]⟩, .int .i64 0, .nilFunc]) w := by
      obtain ⟨j, h1, _, _, z, h2, h3⟩ := (cx_ok 0 []).info (t := 115) (by decide)
      have h4 : (Tryz.prog.info? 115).bind (·.zero) = some (.agg #[.string ⟨#[]⟩, .int .i64 0, .nilFunc]) := by kernel_rfl
      rw [h1, Option.bind_some, h2] at h4
      injection h4 with h4
      subst h4
      simp [zeroValue, typeInfo, h1, h2, Result.andThen]
    exact ⟨⟨#[]⟩, 0, false, .nilFunc, by simp [Instr.lookup, run_underlying (COk.map (cx_ok 0 []) ht), MapKept.run_getObj_map h1, MapKept.run_checkKey hku ((Ky.int .u8).isKey op), MapKept.run_findKey hku g1, hz, Result.andThen], .inr ⟨rfl, g2, rfl⟩⟩
  · have : e.val = .agg #[.string b.1, .int .i64 b.2, .nilFunc] := g5
    exact ⟨b.1, b.2, true, .nilFunc, by simp [Instr.lookup, run_underlying (COk.map (cx_ok 0 []) ht), MapKept.run_getObj_map h1, MapKept.run_checkKey hku ((Ky.int .u8).isKey op), MapKept.run_findKey hku g1, Result.andThen, this], .inl ⟨rfl, by rw [g4]; rfl, rfl⟩⟩

/-- What 'of' answers. -/
def OfR (op : Int) (v : Value) : Prop := ∃ nm k fv ok, v = .tuple #[.agg #[.string nm, .int .i64 k, fv], .bool ok] ∧ ((ok = true ∧ kindO op = some k ∧ fv = .func (.func (rdF k)) #[] #[]) ∨ (ok = false ∧ kindO op = none ∧ fv = .nilFunc))

theorem of_ok (op : Int) (w : World) : Ret Tryz.prog 71 [.int .u8 op] w [] fun v w' => OfR op v := by
  refine fn_go (cx_ok 22 [4]) wideOrders Tryz.func71 rfl rfl Tryz.call71 (by simp [cx]) ?_; conv => whnf
  have hF := Fr.refl [] w
  refine EvNew.blk fun r2 w hr_r2 hz_r2 hFx hB_r2 => ?_; replace hF := (hF).trans hFx; have hlt_r2 := hFx.size; conv => whnf
  refine EvNew.blk fun r4 w1 hr4 hz4 hF4 hB4 => ?_
  conv => whnf
  refine EvDo.storeBlk (vs := [.func (.func 104) #[] #[], .func (.func 105) #[] #[], .func (.func 106) #[] #[], .func (.func 108) #[] #[]]) (cx_ok 0 []) rfl hB4 rfl rfl (by simp [Value.oneCell']) (by simp [rsOf]; omega) fun w2 hF5 hB5 => ?_
  conv => whnf
  replace hF := hF.trans (hF4.trans' hF5 (by simp; omega))
  refine EvCall.ret0 (forms_ok w2) fun v w3 hF6 hq => ?_
  obtain ⟨r, f, rfl, hM, hf⟩ := hq
  replace hF := hF.trans hF6
  have hB6 := hB5.fr0 hF6
  obtain ⟨nm, k, ok, fv, hrun, hcase⟩ := look_form hM op
  conv => whnf
  refine ⟨_, hrun, ?_⟩
  conv => whnf
  have hr5 := hF.size
  refine EvNew.blk fun r5 w4 hr5' hz5 hF7 hB7 => ?_
  replace hF := hF.trans hF7
  have hB8 := hB6.fr0 hF7
  rcases hcase with ⟨rfl, hk, rfl⟩ | ⟨rfl, hk, rfl⟩
  · rw [hf] at hk
    have hkr := kindO_range hk
    conv => whnf
    intro w5 hFx hBx
    have hs4 := hB8.lt
    have hs3 := hB6.lt
    have hB9 := hB8.fr hFx (by simp; omega)
    replace hF := hF.trans' hFx (by simp; omega)
    conv => whnf
    refine EvIf.tt ?_
    conv => whnf
    refine EvIdx.one hkr.1 (by omega) rfl ?_
    have hget : ([.func (.func 104) #[] #[], .func (.func 105) #[] #[], .func (.func 106) #[] #[], .func (.func 108) #[] #[]] : List Value)[k.toNat]? = some (.func (.func (rdF k)) #[] #[]) := by
      have : k = 0 ∨ k = 1 ∨ k = 2 ∨ k = 3 := by omega
      rcases this with rfl | rfl | rfl | rfl <;> rfl
    conv => whnf
    refine EvLd.blk hB9 hget ?_
    conv => whnf
    intro w6 hFy hBy
    replace hF := hF.trans' hFy (by simp; omega)
    conv => whnf
    intro w7 hFz hBz
    replace hF := hF.trans' hFz (by simp; omega)
    conv => whnf
    exact ⟨hF, nm, k, _, true, rfl, .inl ⟨rfl, hk, rfl⟩⟩
  · have hk' : kindO op = none := by rw [← hf, hk]; rfl
    conv => whnf
    intro w5 hFx hBx
    replace hF := hF.trans' hFx (by simp; omega)
    conv => whnf
    refine EvIf.ff ?_
    conv => whnf
    intro w7 hFz hBz
    replace hF := hF.trans' hFz (by simp; omega)
    conv => whnf
    exact ⟨hF, nm, k, _, false, rfl, .inr ⟨rfl, hk', rfl⟩⟩

theorem BytesAt.idx {w : World} {A : Option Addr} {l : List Int} (h : BytesAt w A l) {n sz i : Nat} {K : Addr → Prop} (h1 : i < l.length) (hn : n = l.length) (hs : sz = 1) (k : ∀ a, A = some a → K (a.add i)) : EvIdx A n (i : Int) sz K := by
  obtain ⟨a, ha, _⟩ := Rows.at_ h (by rw [List.length_map]; omega)
  exact ⟨a, ha, by omega, by omega, by rw [hs, Int.toNat_natCast, Nat.mul_one]; exact k a ha⟩
theorem BytesAt.cell {w : World} {A : Option Addr} {l : List Int} (h : BytesAt w A l) {a : Addr} (ha : A = some a) {i : Nat} (hi : i < l.length) : w.cell? (a.add i) = some (.int .u8 (l.getD i 0)) := by
  have := Rows.cell h ha (i := i) (j := 0) (r := [.int .u8 l[i]]) (v := .int .u8 l[i]) (by rw [List.getElem?_map, List.getElem?_eq_getElem hi]; rfl) rfl
  simpa [List.getD_eq_getElem?_getD, List.getElem?_eq_getElem hi] using this
theorem rows_drop {w : World} {A : Option Addr} {sz : Nat} {rows : List (List Value)} (h : Fw.Rows w A sz rows) (i : Nat) : Fw.Rows w (A.map (·.add (i * sz))) sz (rows.drop i) := by
  refine ⟨fun r hr => h.1 r (List.mem_of_mem_drop hr), fun hne => ?_⟩
  obtain ⟨a, rfl, hb, hc⟩ := h.2 (by rintro rfl; simp at hne)
  refine ⟨_, rfl, by simpa [block_add] using hb, fun j r hj k v hv => ?_⟩
  rw [List.getElem?_drop] at hj
  have := hc (i + j) r hj k v hv
  rw [add_add]
  rw [show i * sz + (j * sz + k) = (i + j) * sz + k by rw [Nat.add_mul]; omega]
  exact this
def Byt (l : List Int) : Prop := ∀ x ∈ l, 0 ≤ x ∧ x < 256
theorem Byt.at_ {l : List Int} (h : Byt l) (i : Nat) : 0 ≤ l.getD i 0 ∧ l.getD i 0 < 256 := by
  rcases Nat.lt_or_ge i l.length with hi | hi
  · rw [List.getD_eq_getElem?_getD, List.getElem?_eq_getElem hi]; exact h _ (List.getElem_mem hi)
  · rw [List.getD_eq_getElem?_getD, List.getElem?_eq_none hi]; decide
theorem Byt.drop {l : List Int} (h : Byt l) (i : Nat) : Byt (l.drop i) := fun x hx => h x (List.mem_of_mem_drop hx)
theorem run_or {t : Nat} {x y : Int} (hx : 0 ≤ x ∧ x < 256) (hy : 0 ≤ y ∧ y < 256) (w : World) : (binOp .or t (.int .i64 (x * 256)) (.int .i64 y)).run Tryz.prog w = .ok (.int .i64 (pair x y)) w := by
  have := bits_join .i64 20 (by decide) (fun n h1 h2 => by rw [IntKind.wrap_i64]; omega) 8 (x * 256) y (by omega) (by omega) (by omega) (by omega) (by omega) (by omega)
  have e : bits .or .i64 (x * 256) y = pair x y := by rw [this]; unfold pair; omega
  simp [binOp, Op.intBits, bits]
  simpa [bits] using e

theorem two_ok {A : Option Addr} {c : Nat} {l : List Int} {w : World} (h : BytesAt w A l) (hb : Byt l) (h2 : 2 ≤ l.length) : Ret Tryz.prog 107 [.slice A l.length c] w [] fun v w' => v = .int .i64 (pair (l.getD 0 0) (l.getD 1 0)) := by
  have b0 := hb.at_ 0
  have b1 := hb.at_ 1
  refine fn_go (cx_ok 13 []) wideOrders Tryz.func107 rfl rfl Tryz.call107 (by simp [cx]) ?_; conv => whnf
  have hFd := Fr.drew w
  refine EvDraw.go (fun w' => Fr [] w w') none (.take 0 true (.take 1 true (.take 2 true (.take 3 true (.take 4 true (.take 5 true (.take 6 true (.take 7 true (.take 8 true (.take 9 true (.take 10 true .done))))))))))) (by kernel_rfl) ?_ ?_
  · exact hFd
  conv => whnf
  refine BytesAt.idx (i := 0) h (by omega) rfl rfl fun a ha => ?_
  conv => whnf
  refine ⟨_, fun w' hw => BytesAt.cell (Rows.fr0 h hw.1) ha (by omega), ?_⟩
  conv => whnf
  refine EvAr.i64 (by omega) ?_
  conv => whnf
  refine ⟨by omega, ?_⟩
  conv => whnf
  refine EvAr.i64 (by show -9223372036854775808 ≤ l.getD 0 0 * 256 ∧ l.getD 0 0 * 256 ≤ 9223372036854775807; omega) ?_
  conv => whnf
  refine BytesAt.idx (i := 1) h (by omega) rfl rfl fun a' ha' => ?_
  conv => whnf
  refine ⟨_, fun w' hw => BytesAt.cell (Rows.fr0 h hw.1) ha' (by omega), ?_⟩
  conv => whnf
  refine EvAr.i64 (by omega) ?_
  conv => whnf
  refine ⟨.int .i64 (pair (l.getD 0 0) (l.getD 1 0)), fun w' hw => run_or b0 b1 w', ?_⟩
  conv => whnf
  exact ⟨hFd, rfl⟩

theorem two_ok' {A : Option Addr} {c n : Nat} {l : List Int} {w : World} (h : BytesAt w A l) (hb : Byt l) (h2 : 2 ≤ l.length) (hn : n = l.length) : Ret Tryz.prog 107 [.slice A n c] w [] fun v w' => v = .int .i64 (pair (l.getD 0 0) (l.getD 1 0)) := by subst hn; exact two_ok h hb h2

/-- What stands behind an opcode, as numbers. -/
def argsB (k : Int) (l : List Int) : Int × Int × Int :=
  if k = 1 then (l.getD 0 0, 0, 0) else if k = 2 then (pair (l.getD 0 0) (l.getD 1 0), 0, 0) else if k = 3 then (l.getD 0 0, l.getD 1 0, pair (l.getD 2 0) (l.getD 3 0)) else (0, 0, 0)
def tup3 (p : Int × Int × Int) : Value := .tuple #[.int .i64 p.1, .int .i64 p.2.1, .int .i64 p.2.2]

theorem rd_ok {k : Int} (h0 : 0 ≤ k) (h4 : k < 4) {A : Option Addr} {c : Nat} {l : List Int} {w : World} (h : BytesAt w A l) (hb : Byt l) (hk : szK k ≤ l.length) (hlc : l.length ≤ c) : Ret Tryz.prog (rdF k) [.slice A l.length c] w [] fun v w' => v = tup3 (argsB k l) := by
  have : k = 0 ∨ k = 1 ∨ k = 2 ∨ k = 3 := by omega
  have b0 := hb.at_ 0
  rcases this with rfl | rfl | rfl | rfl
  · show Ret Tryz.prog 104 _ _ _ _
    refine fn_go (cx_ok 5 []) wideOrders Tryz.func104 rfl rfl Tryz.call104 (by simp [cx]) ?_; conv => whnf
    exact ⟨Fr.refl _ _, rfl⟩
  · have hk' : 1 ≤ l.length := hk
    show Ret Tryz.prog 105 _ _ _ _
    refine fn_go (cx_ok 9 []) wideOrders Tryz.func105 rfl rfl Tryz.call105 (by simp [cx]) ?_; conv => whnf
    refine BytesAt.idx (i := 0) h (by omega) rfl rfl fun a ha => ?_
    conv => whnf
    refine ⟨_, BytesAt.cell h ha (by omega), ?_⟩
    conv => whnf
    refine EvAr.i64 (by omega) ?_
    conv => whnf
    exact ⟨Fr.refl _ _, rfl⟩
  · have hk' : 2 ≤ l.length := hk
    show Ret Tryz.prog 106 _ _ _ _
    refine fn_go (cx_ok 7 []) wideOrders Tryz.func106 rfl rfl Tryz.call106 (by simp [cx]) ?_; conv => whnf
    refine EvCall.ret0 (two_ok h hb hk') fun v w1 hF hq => ?_
    obtain rfl := hq
    conv => whnf
    exact ⟨hF, rfl⟩
  · have hk' : 4 ≤ l.length := hk
    have b1 := hb.at_ 1
    show Ret Tryz.prog 108 _ _ _ _
    refine fn_go (cx_ok 16 []) wideOrders Tryz.func108 rfl rfl Tryz.call108 (by simp [cx]) ?_; conv => whnf
    have hFd := Fr.drew w
    refine EvDraw.go (fun w' => Fr [] w w') none (.take 0 true (.take 1 true (.take 2 true (.take 3 true (.take 4 true (.take 5 true (.take 6 true (.take 7 true (.take 8 true (.take 9 true (.exec 10 (.take 11 true (.take 12 true (.take 13 true .done)))))))))))))) (by kernel_rfl) ?_ ?_
    · exact hFd
    conv => whnf
    refine BytesAt.idx (i := 0) h (by omega) rfl rfl fun a ha => ?_
    conv => whnf
    refine ⟨_, fun w' hw => BytesAt.cell (Rows.fr0 h hw.1) ha (by omega), ?_⟩
    conv => whnf
    refine EvAr.i64 (by omega) ?_
    conv => whnf
    refine BytesAt.idx (i := 1) h (by omega) rfl rfl fun a' ha' => ?_
    conv => whnf
    refine ⟨_, fun w' hw => BytesAt.cell (Rows.fr0 h hw.1) ha' (by omega), ?_⟩
    conv => whnf
    refine EvAr.i64 (by omega) ?_
    conv => whnf
    refine ⟨⟨by omega, by omega, by omega, by omega, ?_⟩⟩
    conv => whnf
    have hcn : ¬ ((c : Int).toNat = Int.toNat 2) := by rw [Int.toNat_natCast]; show ¬ c = 2; omega
    have hd : BytesAt w.drew (if (c : Int).toNat = Int.toNat 2 then A else A.map fun x => x.add (Int.toNat 2 * ((cx 16 []).ty 5).size)) (l.drop 2) := by
      rw [if_neg hcn]
      have := rows_drop (Rows.fr0 h hFd) 2
      rw [← List.map_drop] at this
      exact this
    have hl2 : (l.drop 2).length = l.length - 2 := by simp
    refine EvCall.ret0 (two_ok' hd (hb.drop 2) (by omega) (n := (l.length : Int).toNat - Int.toNat 2) (by rw [hl2]; rfl)) fun v w1 hF hq => ?_
    obtain rfl := hq
    conv => whnf
    refine ⟨hFd.trans hF, ?_⟩
    conv => whnf
    refine ⟨hFd.trans hF, ?_⟩
    show _ = tup3 (l.getD 0 0, l.getD 1 0, pair (l.getD 2 0) (l.getD 3 0))
    have e2 : (l.drop 2).getD 0 0 = l.getD 2 0 := by simp [List.getD_eq_getElem?_getD]
    have e3 : (l.drop 2).getD 1 0 = l.getD 3 0 := by simp [List.getD_eq_getElem?_getD]
    rw [← e2, ← e3]
    rfl
theorem rd_ok' {k : Int} (h0 : 0 ≤ k) (h4 : k < 4) {A : Option Addr} {c n : Nat} {l : List Int} {w : World} (h : BytesAt w A l) (hb : Byt l) (hk : szK k ≤ l.length) (hlc : l.length ≤ c) (hn : n = l.length) : Ret Tryz.prog (rdF k) [.slice A n c] w [] fun v w' => v = tup3 (argsB k l) := by
  subst hn; exact rd_ok h0 h4 h hb hk hlc

theorem size_ok {k : Int} (h0 : 0 ≤ k) (h4 : k < 4) (w : World) : Ret Tryz.prog 72 [.int .i64 k] w [] fun v w' => v = .int .i64 (szK k : Nat) := by
  have : k = 0 ∨ k = 1 ∨ k = 2 ∨ k = 3 := by omega
  rcases this with rfl | rfl | rfl | rfl
  all_goals
    refine fn_go (cx_ok 10 []) wideOrders Tryz.func72 rfl rfl Tryz.call72 (by simp [cx]) ?_; conv => whnf
    repeat (first | (refine EvIf.tt ?_; conv => whnf) | (refine EvIf.ff ?_; conv => whnf))
    exact ⟨Fr.refl _ _, rfl⟩

def sizeO (op : Int) : Nat := match kindO op with | some k => 1 + szK k | none => 0
theorem szK_le (k : Int) : szK k ≤ 4 := by unfold szK; split <;> (try split) <;> (try split) <;> omega
theorem sizeO_le (op : Int) : sizeO op ≤ 5 := by
  unfold sizeO
  cases kindO op with
  | none => simp
  | some k => have := szK_le k; simp only; omega
theorem Size_ok (op : Int) (w : World) : Ret Tryz.prog 43 [.int .u8 op] w [] fun v w' => v = .int .i64 (sizeO op : Nat) := by
  refine fn_go (cx_ok 16 []) wideOrders Tryz.func43 rfl rfl Tryz.call43 (by simp [cx]) ?_; conv => whnf
  refine EvCall.ret0 (of_ok op w) fun v w1 hF1 hq => ?_
  obtain ⟨nm, k, fv, ok, rfl, hc⟩ := hq
  have hs1 := hF1.size
  conv => whnf
  refine EvNew.blk fun r3 w2 hr3 hz3 hF2 hB2 => ?_
  rcases hc with ⟨rfl, hk, rfl⟩ | ⟨rfl, hk, rfl⟩
  · have hkr := kindO_range hk
    conv => whnf
    intro w3 hFx hBx
    conv => whnf
    refine EvIf.ff ?_
    conv => whnf
    have hF := (hF1.trans hF2).trans' hFx (by simp; omega)
    refine EvCall.ret0 (size_ok hkr.1 hkr.2 w3) fun v w4 hF4 hq => ?_
    obtain rfl := hq
    have hz : szK k ≤ 4 := by unfold szK; split <;> (try split) <;> (try split) <;> omega
    conv => whnf
    refine EvAr.i64 (by omega) ?_; conv => whnf
    refine ⟨hF.trans hF4, ?_⟩
    unfold sizeO
    rw [hk]
    show Value.int .i64 (1 + (szK k : Int)) = .int .i64 ((1 + szK k : Nat) : Int)
    rw [Int.natCast_add]; rfl
  · conv => whnf
    intro w3 hFx hBx
    conv => whnf
    refine EvIf.tt ?_
    conv => whnf
    refine ⟨(hF1.trans hF2).trans' hFx (by simp; omega), ?_⟩
    unfold sizeO
    rw [hk]; rfl

/-- An instruction. -/
structure In where
  at_ : Int
  op : Int
  a : Int
  b : Int
  c : Int
deriving Inhabited
def In.cells (x : In) : List Value := [.int .i64 x.at_, .int .u8 x.op, .int .i64 x.a, .int .i64 x.b, .int .i64 x.c]
/-- The instruction at a place, or why there is none. -/
def readL (l : List Int) (i : Nat) : Int × In :=
  match kindO (l.getD i 0) with
  | none => (40, ⟨0, 0, 0, 0, 0⟩)
  | some k => if l.length - i - 1 < szK k then (41, ⟨0, 0, 0, 0, 0⟩) else (0, ⟨i, l.getD i 0, (argsB k (l.drop (i + 1))).1, (argsB k (l.drop (i + 1))).2.1, (argsB k (l.drop (i + 1))).2.2⟩)

theorem read_ok {A : Option Addr} {c : Nat} {l : List Int} {w : World} (h : BytesAt w A l) (hb : Byt l) (hlc : l.length ≤ c) (hl : l.length ≤ 1073741824) {i : Nat} (hi : i < l.length) :
    Ret Tryz.prog 42 [.slice A l.length c, .int .i64 i] w [] fun v w' => v = .tuple #[.agg (readL l i).2.cells.toArray, .int .i64 (readL l i).1] := by
  refine fn_go (cx_ok 60 [8]) wideOrders Tryz.func42 rfl rfl Tryz.call42 (by simp [cx]) ?_; conv => whnf
  have hF := Fr.refl [] w
  refine EvNew.blk fun r4 w hr_r4 hz_r4 hFx hB_r4 => ?_; replace hF := (hF).trans hFx; have hlt_r4 := hFx.size; conv => whnf
  refine EvSplit.lt (fun g1 => ?_) (fun g1 => ?_)
  · omega
  conv => whnf
  refine EvIf.ge (fun g2 => ?_) (fun g2 => ?_)
  · omega
  conv => whnf
  have h1 := Rows.fr0 h hF
  refine BytesAt.idx h1 hi rfl rfl fun a ha => ?_
  conv => whnf
  refine ⟨_, BytesAt.cell h1 ha hi, ?_⟩
  conv => whnf
  refine EvCall.ret0 (of_ok (l.getD i 0) _) fun v w1 hF1 hq => ?_
  obtain ⟨nm, k, fv, ok, rfl, hc⟩ := hq
  replace hF := hF.trans hF1
  have hs1 := hF1.size
  conv => whnf
  refine EvNew.blk fun r6 w hr_r6 hz_r6 hFx hB_r6 => ?_; replace hF := (hF).trans hFx; have hlt_r6 := hFx.size; conv => whnf
  rcases hc with ⟨rfl, hk, rfl⟩ | ⟨rfl, hk, rfl⟩
  rotate_left
  · conv => whnf
    intro w hFx hBx; replace hF := (hF).trans' hFx (by simp; omega); conv => whnf
    refine EvIf.tt ?_
    conv => whnf
    intro w hFx hBx; replace hF := (hF).trans' hFx (by simp; omega); conv => whnf
    refine ⟨hF, ?_⟩
    unfold readL
    rw [hk]
    rfl
  have hkr := kindO_range hk
  conv => whnf
  intro w hFx hBx; replace hF := (hF).trans' hFx (by simp; omega); conv => whnf
  have hsx := hFx.size
  refine EvIf.ff ?_
  conv => whnf
  refine EvAr.i64 (by omega) ?_; conv => whnf
  refine EvAr.i64 (by omega) ?_; conv => whnf
  refine EvCall.ret0 (size_ok hkr.1 hkr.2 _) fun v w2 hF2 hq => ?_
  obtain rfl := hq
  replace hF := hF.trans hF2
  have hs2 := hF2.size
  conv => whnf
  refine EvIf.lt (fun g3 => ?_) (fun g3 => ?_)
  · conv => whnf
    intro w hFx hBx; replace hF := (hF).trans' hFx (by simp; omega); conv => whnf
    refine ⟨hF, ?_⟩
    unfold readL
    rw [hk]
    dsimp only
    rw [if_pos (by omega)]
    rfl
  conv => whnf
  have h2 := Rows.fr0 h hF
  refine BytesAt.idx h2 hi rfl rfl fun a' ha' => ?_
  conv => whnf
  refine ⟨_, BytesAt.cell h2 ha' hi, ?_⟩
  conv => whnf
  refine EvNew.blk fun r8 w3 hr8 hz8 hF3 hB3 => ?_
  conv => whnf
  refine EvDo.storeBlk (vs := [.int .i64 i, .int .u8 (l.getD i 0), .int .i64 0, .int .i64 0, .int .i64 0]) (cx_ok 0 []) rfl hB3 rfl rfl (by simp [Value.oneCell']) (by simp [rsOf]; omega) fun w4 hF4 hB4 => ?_
  replace hF := (hF.trans hF3).trans' hF4 (by simp; omega)
  conv => whnf
  have hFd := Fr.drew w4
  refine EvDraw.go (fun w' => True) none (.take 0 true (.take 1 true (.take 2 true (.take 3 true (.take 4 true (.take 5 true (.exec 6 (.take 7 true (.take 8 true (.take 9 true (.take 10 true (.take 11 true (.exec 12 (.take 13 true (.exec 14 (.take 15 true (.exec 16 .done))))))))))))))))) (by kernel_rfl) ?_ ?_
  · trivial
  conv => whnf
  refine EvAr.i64 (by omega) ?_; conv => whnf
  refine ⟨⟨by omega, by omega, by omega, by omega, ?_⟩⟩
  conv => whnf
  have h4 := Rows.fr0 h (hF.trans hFd)
  have hd : BytesAt w4.drew (if (c : Int).toNat = ((i : Int) + 1).toNat then A else A.map fun x => x.add (((i : Int) + 1).toNat * ((cx 60 [8]).ty 5).size)) (l.drop (i + 1)) := by
    have hin : ((i : Int) + 1).toNat = i + 1 := by omega
    rw [hin]
    by_cases hci : (c : Int).toNat = i + 1
    · have : l.drop (i + 1) = [] := List.drop_eq_nil_of_le (by omega)
      rw [this]
      exact Rows.nil
    · rw [if_neg hci]
      have := rows_drop h4 (i + 1)
      rw [← List.map_drop] at this
      exact this
  refine EvCall.ret0 (rd_ok' hkr.1 hkr.2 hd (hb.drop _) (by simp; omega) (by simp; omega) (by simp)) fun v w5 hF5 hq => ?_
  obtain rfl := hq
  generalize hp : argsB k (l.drop (i + 1)) = p
  obtain ⟨pa, pb, pc⟩ := p
  have hB5 := (hB4.fr0 hFd).fr0 hF5
  replace hF := (hF.trans hFd).trans hF5
  conv => whnf
  refine ⟨trivial, ?_⟩
  conv => whnf
  refine EvSt.blk hB5 rfl rfl (by simp [rsOf]; omega) fun w6 hF6 hB6 => ?_
  replace hF := hF.trans' hF6 (by simp; omega)
  conv => whnf
  refine ⟨trivial, ?_⟩
  conv => whnf
  refine EvSt.blk hB6 rfl rfl (by simp [rsOf]; omega) fun w7 hF7 hB7 => ?_
  replace hF := hF.trans' hF7 (by simp; omega)
  conv => whnf
  refine ⟨trivial, ?_⟩
  conv => whnf
  refine EvSt.blk hB7 rfl rfl (by simp [rsOf]; omega) fun w8 hF8 hB8 => ?_
  replace hF := hF.trans' hF8 (by simp; omega)
  conv => whnf
  refine ⟨trivial, ?_⟩
  conv => whnf
  refine ⟨_, rfl, fun j v hj => hB8.add0 hj, ?_⟩
  conv => whnf
  intro w hFx hBx; replace hF := (hF).trans' hFx (by simp; omega); conv => whnf
  refine ⟨hF, ?_⟩
  unfold readL
  rw [hk]
  dsimp only
  rw [if_neg (by omega), hp]
  rfl

def stepL (op : Int) : Nat := max 1 (sizeO op)
/-- All instructions from a place on: why there are none, where, the instructions. -/
def allL (l : List Int) : Nat → Nat → Int × Int × List In
  | 0, _ => (0, 0, [])
  | n + 1, i => if i < l.length then (if (readL l i).1 ≠ 0 then ((readL l i).1, i, []) else
      let r := allL l n (i + stepL (readL l i).2.op)
      (r.1, r.2.1, if r.1 = 0 then (readL l i).2 :: r.2.2 else [])) else (0, 0, [])
def comb (acc : List In) (r : Int × Int × List In) : Int × Int × List In := (r.1, r.2.1, if r.1 = 0 then acc ++ r.2.2 else [])
theorem stepL_pos (op : Int) : 1 ≤ stepL op := Nat.le_max_left _ _

theorem comb_nil (l : List Int) (n i : Nat) : comb [] (allL l n i) = allL l n i := by
  have key : (allL l n i).1 ≠ 0 → (allL l n i).2.2 = [] := by
    intro h
    cases n with
    | zero => rfl
    | succ n =>
      unfold allL at h ⊢
      split at h
      · rename_i c; rw [if_pos c]
        split at h
        · rename_i c2; rw [if_pos c2]
        · rename_i c2; rw [if_neg c2]; dsimp only at h ⊢; rw [if_neg h]
      · rename_i c; rw [if_neg c]
  unfold comb
  by_cases h : (allL l n i).1 = 0
  · rw [if_pos h]; rfl
  · rw [if_neg h, ← key h]

theorem all_ok {A : Option Addr} {c : Nat} {l : List Int} {w : World} (h : BytesAt w A l) (hb : Byt l) (hlc : l.length ≤ c) (hl : l.length ≤ 1073741824) :
    Ret Tryz.prog 27 [.slice A l.length c] w [] fun v w' => ∃ vl, v = .tuple #[vl, .int .i64 (allL l l.length 0).1, .int .i64 (allL l l.length 0).2.1] ∧
      Own w' 71 5 vl (allL l l.length 0).2.2.length ((allL l l.length 0).2.2.flatMap In.cells) ∧ ∀ b, vl.ownBlock = some b → w.heap.size ≤ b := by
  obtain ⟨R, hR⟩ : ∃ R, allL l l.length 0 = R := ⟨_, rfl⟩
  rw [hR]
  refine fn_go (cx_ok 34 []) wideOrders Tryz.func27 rfl rfl Tryz.call27 (by simp [cx]) ?_; conv => whnf
  refine EvLoop.meetG2 (Nat × Value × List In × Nat) (fun x => ⟨[(0, .v (.slice A l.length c)), (5, .v x.2.1), (6, .v (.int .i64 x.1))], [], 0⟩)
    (fun x w' => Fr [] w w' ∧ Own w' 71 5 x.2.1 x.2.2.1.length (x.2.2.1.flatMap In.cells) ∧ (∀ b, x.2.1.ownBlock = some b → w.heap.size ≤ b) ∧ x.2.2.1.length ≤ x.1 ∧ x.1 ≤ 2 * l.length + 5 ∧ l.length ≤ x.1 + x.2.2.2 ∧ comb x.2.2.1 (allL l x.2.2.2 x.1) = R) (fun x => x.2.2.2) (0, .slice none 0 0, [], l.length)
    (Value × List In) (.exit 0) (fun x => ⟨[(5, .v x.1)], [], 0⟩) (fun x w' => Fr [] w w' ∧ Own w' 71 5 x.1 x.2.length (x.2.flatMap In.cells) ∧ (∀ b, x.1.ownBlock = some b → w.heap.size ≤ b) ∧ (0, 0, x.2) = R)
    (by (refine SubS.mk ?_ ?_ <;> (repeat' (first | exact True.intro | refine And.intro ?_ ?_)) <;> (first | rfl | exact svi (by omega) | exact List.mem_cons_self | exact List.mem_cons_of_mem _ List.mem_cons_self | exact List.mem_cons_of_mem _ (List.mem_cons_of_mem _ List.mem_cons_self) | skip))) ⟨Fr.refl _ _, Own.nil, by simp [Value.ownBlock], by simp, by dsimp only; omega, by dsimp only; omega, by show comb [] _ = R; rw [comb_nil]; exact hR⟩ ?_ ?_
  rotate_left
  · rintro ⟨vl, acc⟩ w2 ⟨hF, hO, hB, hr⟩
    dsimp only at hO hB hr
    conv => whnf
    rw [← hr]
    exact ⟨hF, _, rfl, hO, hB⟩
  intro K0 hK0 hK0'
  rintro ⟨i, vl, acc, fuel⟩ w2 ⟨hF, hO, hB, ha, hi5, hfu, hc⟩
  dsimp only at hO hB ha hi5 hfu hc
  conv => whnf
  refine EvIf.lt (fun g => ?_) (fun g => ?_)
  rotate_left
  · conv => whnf
    refine hK0 (vl, acc) _ _ (by (refine SubS.mk ?_ ?_ <;> (repeat' (first | exact True.intro | refine And.intro ?_ ?_)) <;> (first | rfl | exact svi (by omega) | exact List.mem_cons_self | exact List.mem_cons_of_mem _ List.mem_cons_self | exact List.mem_cons_of_mem _ (List.mem_cons_of_mem _ List.mem_cons_self) | skip))) ⟨hF, hO, hB, ?_⟩
    rw [← hc]
    cases fuel with
    | zero => simp [allL, comb]
    | succ n => unfold allL; rw [if_neg (by omega)]; simp [comb]
  conv => whnf
  have hil : i < l.length := by omega
  obtain ⟨fuel, rfl⟩ : ∃ n, fuel = n + 1 := ⟨fuel - 1, by omega⟩
  unfold allL at hc
  rw [if_pos hil] at hc
  refine EvCall.ret0 (read_ok (Rows.fr0 h hF) hb hlc hl hil) fun v w3 hF3 hq => ?_
  obtain rfl := hq
  generalize hrd : readL l i = rd at *
  obtain ⟨err, xa, xo, xx, xb, xc⟩ := rd
  dsimp only at hc
  replace hF := hF.trans hF3
  have hO3 := hO.fr0 hF3
  have hs3 := hF.size
  show putX _ _ (.v (.tuple #[.agg #[.int .i64 xa, .int .u8 xo, .int .i64 xx, .int .i64 xb, .int .i64 xc], .int .i64 err])) _ _
  conv => whnf
  refine EvNew.blk fun r7 w hr_r7 hz_r7 hFx hB_r7 => ?_; replace hF := (hF).trans hFx; have hlt_r7 := hFx.size; conv => whnf
  have hO4 := hO3.fr0 hFx
  conv => whnf
  intro w hFx hBx; replace hF := (hF).trans' hFx (by simp; omega); conv => whnf
  have hO5 := hO4.fr hFx (fun b hb => by have := hO3.lt hb; simp; omega)
  refine EvIf.ne (fun e1 => ?_) (fun e1 => ?_)
  · conv => whnf
    refine hK0' _ _ _ ?_
    rw [if_pos e1] at hc
    unfold comb at hc
    dsimp only at hc
    rw [if_neg e1] at hc
    conv => whnf
    rw [← hc]
    exact ⟨hF, _, rfl, Own.nil, by simp [Value.ownBlock]⟩
  have e0 : err = 0 := by omega
  subst e0
  rw [if_neg (by omega)] at hc
  conv => whnf
  refine EvNew.blk fun r9 w9 hr9 hz9 hF9 hB9 => ?_
  conv => whnf
  have hO6 := hO5.fr0 hF9
  refine EvApp.lit (cx_ok 0 []) rfl (⟨rfl, rfl, rfl, rfl⟩ : El (cx 0 []) 71 5 40 [.int .i64 0, .int .u8 0, .int .i64 0, .int .i64 0, .int .i64 0]) (by omega) rfl hO6 hB9 rfl (by simp [Value.oneCell']) (by omega) (by simp [maxLen]; omega) (fun r hr e => by simp [rsOf] at hr; have := hO3.lt e; omega) fun v10 w10 hO10 hF10 hat10 => ?_
  obtain ⟨A10, c10, rfl, _⟩ := hO10.form
  conv => whnf
  have hs9 := hF9.size
  have hs8 := hF.size
  replace hF := (hF.trans hF9).trans' hF10 (fun y hy hl => by have := hB y (toList_some.1 hy); omega)
  refine EvCall.ret (Size_ok xo w10) (by simp) fun v w11 hF11 hq => ?_
  obtain rfl := hq
  have hsz := sizeO_le xo
  have hst : (if ((sizeO xo : Nat) : Int) > 1 then ((sizeO xo : Nat) : Int) else 1) = (stepL xo : Int) := by
    unfold stepL
    split <;> omega
  have hsp := stepL_pos xo
  have hs5 : stepL xo ≤ 5 := by unfold stepL; omega
  conv => whnf
  refine EvAr.i64 (by rw [hst]; show -9223372036854775808 ≤ (i : Int) + _ ∧ (i : Int) + _ ≤ 9223372036854775807; omega) ?_
  refine ⟨(i + stepL xo, .slice A10 (acc.length + 1) c10, acc ++ [⟨xa, xo, xx, xb, xc⟩], fuel), ?_, ⟨hF.trans hF11, ?_, fun b hb => ?_, by simp; omega, by dsimp only; omega, by dsimp only; omega, ?_⟩, by dsimp only; omega⟩
  · rw [hst]
    (refine SubS.mk ?_ ?_ <;> (repeat' (first | exact True.intro | refine And.intro ?_ ?_)) <;> (first | rfl | exact svi (by omega) | exact List.mem_cons_self | exact List.mem_cons_of_mem _ List.mem_cons_self | exact List.mem_cons_of_mem _ (List.mem_cons_of_mem _ List.mem_cons_self) | skip))
  · have := hO10.fr0 hF11
    dsimp only
    rw [List.length_append, List.flatMap_append]
    exact this
  · rcases hat10 with e | e
    · exact hB b (e ▸ hb)
    · rw [e] at hb; injection hb with hb
      omega
  · rw [← hc]
    unfold comb
    dsimp only
    by_cases h0 : (allL l fuel (i + stepL xo)).1 = 0
    · rw [if_pos h0, if_pos h0, if_pos h0]; simp
    · rw [if_neg h0, if_neg h0]
end Go.Proofs.Tab
