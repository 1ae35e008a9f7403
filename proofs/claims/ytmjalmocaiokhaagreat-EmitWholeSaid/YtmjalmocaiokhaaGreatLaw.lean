/- The law's own functions. No condition. -/
import Derived.Test.YtmjalmocaiokhaaGreatEmitK
import Derived.Test.YtmjalmocaiokhaaGreatRise
set_option linter.unusedVariables false
set_option linter.unusedSimpArgs false
set_option maxRecDepth 100000
namespace Go.Proofs.Tab
open Go Go.Fw

def littleT : List Nd := [⟨10, 0, 0, 0, ⟨#[]⟩, 0, 1⟩, ⟨19, 0, 6, 0, ⟨#[]⟩, 0, 2⟩, ⟨33, 3, 0, 0, ⟨#[]⟩, 0, 0⟩, ⟨30, 1, 5, 0, ⟨#[]⟩, 0, 0⟩]
def littleA : Ab := ⟨0, [3, 4], false, littleT⟩
def littleF : Fo := .cons ⟨10, 0, 0, 0, ⟨#[]⟩, 0, 1⟩ (.cons ⟨19, 0, 6, 0, ⟨#[]⟩, 0, 2⟩ (.cons ⟨33, 3, 0, 0, ⟨#[]⟩, 0, 0⟩ .nil (.cons ⟨30, 1, 5, 0, ⟨#[]⟩, 0, 0⟩ .nil .nil)) .nil) .nil
theorem little_able : AbleP littleA littleF := by
  refine ⟨by decide, by decide, by decide, by decide, ?_, rfl, rfl, ?_⟩
  · exact ⟨rfl, rfl, ⟨rfl, rfl, ⟨rfl, rfl, trivial, rfl, rfl, trivial, trivial⟩, trivial⟩, trivial⟩
  · have h : (semA false littleF).map (·.1) = some [3, 4] := by kernel_rfl
    obtain ⟨q, h1, h2⟩ := Option.map_eq_some_iff.1 h
    exact ⟨q.2, by show semA false littleF = some ([3, 4], q.2); rw [h1, ← h2]⟩
theorem little_code : codeOf [0, 1, 5] [] littleA littleF = [4, 0, 1, 0, 2, 60, 6, 34] ∧ badOf [0, 1, 5] [] littleA littleF = false ∧ badOf [0, 1] [] littleA littleF = true := by
  refine ⟨by decide, by decide, by decide⟩

theorem little_ok (w : World) : Ret Tryz.prog 19 [] w [] fun v w' => ∃ As cs At ct, v = .agg (littleA.cells As cs At ct).toArray ∧ SmallsAt w' As littleA.slots ∧ NodesAt w' At littleA.tree ∧ ∀ x, At = some x → x.block < w'.heap.size := by
  refine fn_go (cx_ok 8 []) wideOrders Tryz.func19 rfl rfl Tryz.call19 (by simp [cx]) ?_; conv => whnf
  have hF := Fr.refl [] w
  refine EvNew.blk fun r0 w hr_r0 hz_r0 hFx hB_r0 => ?_; replace hF := (hF).trans hFx; have hlt_r0 := hFx.size; conv => whnf
  refine EvNew.blk fun r1 w1 hr1 hz1 hF1 hB1 => ?_
  replace hF := hF.trans hF1
  conv => whnf
  refine EvNew.blk fun r2 w2 hr2 hz2 hF2 hB2 => ?_
  replace hF := hF.trans hF2
  conv => whnf
  intro w hFx hBx; replace hF := (hF).trans' hFx (by simp; omega); conv => whnf
  have hB1' := (hB1.fr0 hF2).fr hFx (by simp; omega)
  have hB2' := hB2.fr hFx (by simp; omega)
  have hs := hFx.size
  refine ⟨hF, _, _, _, _, rfl, ?_, ?_, fun x hx => ?_⟩
  · exact HB.rows (rows := littleA.slots.map fun n => [.int .i8 n]) hB1' (by simp)
  · exact HB.rows (rows := littleA.tree.map Nd.cells) hB2' (by intro r hr; obtain ⟨x, _, rfl⟩ := List.mem_map.1 hr; rfl)
  · injection hx with hx; subst hx
    show r2 < _; omega

theorem eqBytes_ok {A B : Option Addr} {c d : Nat} {l m : List Int} {w : World} (hl : BytesAt w A l) (hm : BytesAt w B m) (hn : l.length ≤ 1073741824) (hn2 : m.length ≤ 1073741824) :
    Ret Tryz.prog 20 [.slice A l.length c, .slice B m.length d] w [] fun v w' => ∃ r, v = .bool r ∧ (r = true ↔ l = m) := by
  refine fn_go (cx_ok 26 []) wideOrders Tryz.func20 rfl rfl Tryz.call20 (by simp [cx]) ?_; conv => whnf
  refine EvIf.ne (fun h1 => ?_) (fun h1 => ?_)
  · conv => whnf
    exact ⟨Fr.refl _ _, false, rfl, by simp; rintro rfl; exact h1 rfl⟩
  have hlen : l.length = m.length := by omega
  conv => whnf
  refine EvLoop.go Nat (fun i => ⟨[(0, .v (.slice A l.length c)), (1, .v (.slice B m.length d)), (5, .v (.int .i64 i))], [], 0⟩) (fun i w' => Fr [] w w' ∧ i ≤ l.length ∧ l.take i = m.take i) (fun i => l.length - i) 0 (by (refine SubS.mk ?_ ?_ <;> (repeat' (first | exact True.intro | refine And.intro ?_ ?_)) <;> (first | rfl | exact svi (by omega) | exact List.mem_cons_self | exact List.mem_cons_of_mem _ List.mem_cons_self | exact List.mem_cons_of_mem _ (List.mem_cons_of_mem _ List.mem_cons_self) | skip))) ⟨Fr.refl _ _, by omega, by simp⟩ ?_
  rintro i w2 ⟨hF, hi, he⟩
  conv => whnf
  refine EvIf.lt (fun g => ?_) (fun g => ?_)
  rotate_left
  · conv => whnf
    refine ⟨hF, true, rfl, by simp; rw [List.take_of_length_le (by omega), List.take_of_length_le (by omega)] at he; exact he⟩
  have hil : i < l.length := by omega
  have him : i < m.length := by omega
  conv => whnf
  refine EvDraw.go (fun w' => Fr [] w2 w') none (.take 0 true (.take 1 true (.take 2 true (.take 3 true (.take 4 true (.take 5 true (.take 6 true (.take 7 true (.take 8 true .done))))))))) (by kernel_rfl) ?_ ?_
  · exact Fr.drew _
  conv => whnf
  refine BytesAt.idx (Rows.fr0 hl hF) hil rfl rfl fun a ha => ?_
  conv => whnf
  refine ⟨_, fun w' hw => BytesAt.cell (Rows.fr0 (Rows.fr0 hl hF) hw.1) ha hil, ?_⟩
  conv => whnf
  refine BytesAt.idx (Rows.fr0 hm hF) him rfl rfl fun b hb => ?_
  conv => whnf
  refine ⟨_, fun w' hw => BytesAt.cell (Rows.fr0 (Rows.fr0 hm hF) hw.1) hb him, ?_⟩
  have el : l.getD i 0 = l[i] := by simp [List.getD_eq_getElem?_getD, List.getElem?_eq_getElem hil]
  have em : m.getD i 0 = m[i] := by simp [List.getD_eq_getElem?_getD, List.getElem?_eq_getElem him]
  conv => whnf
  refine EvIf.ne (fun h2 => ?_) (fun h2 => ?_)
  · conv => whnf
    refine ⟨hF.trans (Fr.drew _), false, rfl, by simp; rintro rfl; exact h2 rfl⟩
  · conv => whnf
    refine EvAr.i64 (by omega) ?_; conv => whnf
    refine ⟨i + 1, by (refine SubS.mk ?_ ?_ <;> (repeat' (first | exact True.intro | refine And.intro ?_ ?_)) <;> (first | rfl | exact svi (by omega) | exact List.mem_cons_self | exact List.mem_cons_of_mem _ List.mem_cons_self | exact List.mem_cons_of_mem _ (List.mem_cons_of_mem _ List.mem_cons_self) | skip)), ⟨hF.trans (Fr.drew _), hil, ?_⟩, by omega⟩
    rw [List.take_succ_eq_append_getElem hil, List.take_succ_eq_append_getElem him, he, ← el, ← em, h2]

theorem target_ok (x : In) (w : World) : Ret Tryz.prog 29 [.agg x.cells.toArray] w [] fun v w' => v = .int .i64 (tgtI x) := by
  refine fn_go (cx_ok 15 []) wideOrders Tryz.func29 rfl rfl Tryz.call29 (by simp [cx]) ?_; conv => whnf
  have hF := Fr.refl [] w
  refine EvNew.blk fun r1 w hr_r1 hz_r1 hFx hB_r1 => ?_; replace hF := (hF).trans hFx; have hlt_r1 := hFx.size; conv => whnf
  refine EvIf.eq (fun c1 => ?_) (fun c1 => ?_)
  · conv => whnf
    refine EvIf.eq (fun _ => ?_) (fun n => absurd c1 n)
    conv => whnf
    refine ⟨hF, ?_⟩
    unfold tgtI; rw [if_pos (.inl c1)]; rfl
  conv => whnf
  refine EvIf.eq (fun c2 => ?_) (fun c2 => ?_)
  · conv => whnf
    refine EvIf.eq (fun _ => ?_) (fun n => absurd c2 n)
    conv => whnf
    refine ⟨hF, ?_⟩
    unfold tgtI; rw [if_pos (.inr (.inl c2))]; rfl
  conv => whnf
  refine EvIf.eq (fun c3 => ?_) (fun c3 => ?_)
  · conv => whnf
    refine ⟨hF, ?_⟩
    unfold tgtI; rw [if_pos (.inr (.inr c3))]; rfl
  conv => whnf
  refine EvIf.eq (fun c4 => ?_) (fun c4 => ?_)
  · conv => whnf
    refine ⟨hF, ?_⟩
    unfold tgtI; rw [if_neg (by omega), if_pos c4]; rfl
  · conv => whnf
    refine ⟨hF, ?_⟩
    unfold tgtI; rw [if_neg (by omega), if_neg c4]; rfl

theorem works_ok (w : World) : Ret Tryz.prog 8 [] w [] fun v w' => v = .bool true := by
  have hsm : SmAb littleA := by
    refine ⟨by unfold B47 littleA; simp, by unfold B47 littleA littleT; simp, fun x hx => ?_⟩
    have : x.text = ⟨#[]⟩ := by
      have : ∀ x ∈ littleT, x.text.data.size = 0 := by decide
      have h := this x hx
      cases hx' : x.text with | mk d => rw [hx'] at h; simp at h; rw [h]
    rw [this]; unfold B47; exact Nat.zero_le _
  have huq : ∀ f, AbleP littleA f → f = littleF := fun f h => FoAt.uniq h.fo little_able.fo (by rw [h.len, little_able.len])
  refine fn_go (cx_ok 28 []) wideOrders Tryz.func8 rfl rfl Tryz.call8 (by simp [cx]) ?_; conv => whnf
  refine EvCall.ret0 (little_ok w) fun v w1 hF1 hq => ?_
  obtain ⟨As, cs, At, ct, rfl, hS, hT, hlt⟩ := hq
  conv => whnf
  refine EvNew.blk fun r2 w2 hr2 hz2 hF2 hB2 => ?_
  conv => whnf
  have hs2 := hF2.size
  refine EvCall.ret0 (emitAble_ok (ints := [0, 1, 5]) (texts := []) (Ax := none) (ci := 3) (cx' := 0) (Rows.fr0 hS hF2) (Rows.fr0 hT hF2) (fun x hx => by have := hlt x hx; omega) hsm (HB.rows (rows := [[.int .i64 0], [.int .i64 1], [.int .i64 5]]) hB2 (by simp)) Rows.nil (by simp) (by simp)) fun v w3 hF3 hq => ?_
  have hF03 := (hF1.trans hF2).trans hF3
  rcases hq.h with ⟨hn, _⟩ | ⟨f, hf, hq⟩
  · exact absurd ⟨_, little_able⟩ hn
  obtain rfl := huq f hf
  rcases hq with ⟨hb, _⟩ | ⟨_, bv, rfl, hO, hlo⟩
  · rw [little_code.2.1] at hb; cases hb
  rw [little_code.1] at hO
  obtain ⟨A3, c3, rfl, _⟩ := hO.form
  conv => whnf
  refine EvCall.ret0 (little_ok w3) fun v w4 hF4 hq => ?_
  obtain ⟨As', cs', At', ct', rfl, hS', hT', hlt'⟩ := hq
  conv => whnf
  refine EvNew.blk fun r5 w5 hr5 hz5 hF5 hB5 => ?_
  conv => whnf
  have hs5 := hF5.size
  refine EvCall.ret0 (emitAble_ok (ints := [0, 1]) (texts := []) (Ax := none) (ci := 2) (cx' := 0) (Rows.fr0 hS' hF5) (Rows.fr0 hT' hF5) (fun x hx => by have := hlt' x hx; omega) hsm (HB.rows (rows := [[.int .i64 0], [.int .i64 1]]) hB5 (by simp)) Rows.nil (by simp) (by simp)) fun v w6 hF6 hq => ?_
  have hF36 := (hF4.trans hF5).trans hF6
  rcases hq.h with ⟨hn, _⟩ | ⟨f, hf, hq⟩
  · exact absurd ⟨_, little_able⟩ hn
  obtain rfl := huq f hf
  rcases hq with ⟨_, rfl⟩ | ⟨hb, _⟩
  rotate_left
  · rw [little_code.2.2] at hb; cases hb
  conv => whnf
  refine EvSplit.tt ?_
  conv => whnf
  refine EvSplit.tt ?_
  conv => whnf
  refine EvNew.blk fun r7 w7 hr7 hz7 hF7 hB7 => ?_
  conv => whnf
  have hb3 : BytesAt w7 A3 [4, 0, 1, 0, 2, 60, 6, 34] := Rows.fr0 (Rows.fr0 (Own.rows (rows := ([4, 0, 1, 0, 2, 60, 6, 34] : List Int).map fun x => [.int .u8 x]) hO (by rw [flat_one]) (by simp) (by simp)) hF36) hF7
  refine EvCall.ret0 (eqBytes_ok (l := [4, 0, 1, 0, 2, 60, 6, 34]) (m := [4, 0, 1, 0, 2, 60, 6, 34]) hb3 (HB.rows (rows := ([4, 0, 1, 0, 2, 60, 6, 34] : List Int).map fun x => [.int .u8 x]) hB7 (by simp)) (by simp) (by simp)) fun v w8 hF8 hq => ?_
  obtain ⟨r, rfl, hr⟩ := hq
  conv => whnf
  refine ⟨((hF03.trans hF36).trans hF7).trans hF8, ?_⟩
  rw [hr.2 rfl]
  rfl
end Go.Proofs.Tab
