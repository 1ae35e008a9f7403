/- Package check: value, declare, and slices.Contains. No condition. -/
import Derived.Test.YtmjalmocaiokhaaGreatCheckE
set_option linter.unusedVariables false
set_option linter.unusedSimpArgs false
set_option maxRecDepth 100000
namespace Go.Proofs.Tab
open Go Go.Fw

theorem index_ok (A : Option Addr) (c : Nat) (l : List Int) (v : Int) (w : World) (hl : IntsAt w A l) (hn : l.length ≤ 1073741824) :
    Ret Tryz.prog 123 [.slice A l.length c, .int .i64 v] w [] fun u w' => w' = w ∧ ∃ n : Int, u = .int .i64 n ∧ (decide (n ≥ 0)) = l.contains v := by
  refine fn_go (cx_ok 19 []) wideOrders Tryz.func123 rfl rfl Tryz.call123 (by simp [cx]) ?_; conv => whnf
  refine EvLoop.go Nat (fun i => ⟨[(0, .v (.slice A l.length c)), (1, .v (.int .i64 v)), (7, .v (.int .i64 l.length)), (8, .v (.int .i64 i))], [], 0⟩) (fun i w' => w' = w ∧ i ≤ l.length ∧ v ∉ l.take i) (fun i => l.length - i) 0 (by (refine SubS.mk ?_ ?_ <;> (repeat' (first | exact True.intro | refine And.intro ?_ ?_)) <;> (first | rfl | exact svi (by omega) | exact List.mem_cons_self | exact List.mem_cons_of_mem _ List.mem_cons_self | exact List.mem_cons_of_mem _ (List.mem_cons_of_mem _ List.mem_cons_self) | skip))) ⟨rfl, by omega, by simp⟩ ?_
  rintro i w' ⟨rfl, h1, h2⟩
  conv => whnf
  refine EvIf.lt (fun hlt => ?_) (fun hge => ?_)
  · have hi : i < l.length := by omega
    conv => whnf
    refine EvIdx.ints hl (by omega) (by omega) rfl rfl fun a ha => ?_
    rw [Int.toNat_natCast]
    conv => whnf
    refine EvLd.ints hl ha (get_some hi) ?_
    conv => whnf
    refine EvIf.eq (fun e => ?_) (fun e => ?_)
    · conv => whnf
      refine ⟨Fr.refl _ _, rfl, i, rfl, ?_⟩
      have : l.contains v = true := by rw [List.contains_iff_mem, e]; exact List.getElem_mem hi
      rw [this]; simp
    · conv => whnf
      refine EvAr.i64 (by omega) ?_; conv => whnf
      refine ⟨i + 1, by (refine SubS.mk ?_ ?_ <;> (repeat' (first | exact True.intro | refine And.intro ?_ ?_)) <;> (first | rfl | exact svi (by omega) | exact List.mem_cons_self | exact List.mem_cons_of_mem _ List.mem_cons_self | exact List.mem_cons_of_mem _ (List.mem_cons_of_mem _ List.mem_cons_self) | skip)), ⟨rfl, hi, ?_⟩, by omega⟩
      rw [List.take_succ_eq_append_getElem hi, List.mem_append]
      rintro (h | h)
      · exact h2 h
      · simp at h; exact e h
  · conv => whnf
    refine ⟨Fr.refl _ _, rfl, -1, rfl, ?_⟩
    rw [List.take_of_length_le (by omega)] at h2
    have : l.contains v = false := by
      cases hc : l.contains v
      · rfl
      · exact absurd (List.contains_iff_mem.1 hc) h2
    rw [this]; rfl

theorem contains_ok (A : Option Addr) (c : Nat) (l : List Int) (v : Int) (w : World) (hl : IntsAt w A l) (hn : l.length ≤ 1073741824) :
    Ret Tryz.prog 96 [.slice A l.length c, .int .i64 v] w [] fun u w' => w' = w ∧ u = .bool (l.contains v) := by
  refine fn_go (cx_ok 9 []) wideOrders Tryz.func96 rfl rfl Tryz.call96 (by simp [cx]) ?_; conv => whnf
  refine EvCall.ret0 (index_ok A c l v w hl hn) fun u w1 hF hq => ?_
  obtain ⟨rfl, n, rfl, hn⟩ := hq
  conv => whnf
  refine ⟨hF, rfl, ?_⟩
  rw [← hn]; rfl

section
variable {t : List Nd} {B kb mr : Nat} {At : Option Addr} {ct : Nat} {vs : Value} {s : Lk} {w : World}
/-- An expression of a statement. -/
def valueL (r : Kh) (kind : Int) : Bool := match wantL r kind with | some h => decide (h ≤ 256) | none => false

theorem value_ok {i : Nat} {x : Nd} {ks : Fo} (he : ExprOk t i x ks) (h : LK B kb mr At ct t vs s w) (hs : SeenIn s) (hl : s.slots.length ≤ 1000000) (kind : Int) :
    Ret Tryz.prog 35 [kp kb, .int .i64 i, .int .i8 kind] w [kb] fun v w' => LK B kb mr At ct t vs (mustL (valueL (stepE s.slots s.seen x ks.heads (exprs s.slots s.seen ks)) kind) s) w' := by
  generalize hr : stepE s.slots s.seen x ks.heads (exprs s.slots s.seen ks) = r
  refine fn_go (cx_ok 13 []) wideOrders Tryz.func35 rfl rfl Tryz.call35 (by simp [cx]) ?_; conv => whnf
  refine EvCall.ret (wanted_ok he h hs hl kind) (by simp [rsOf]) fun v w1 hF1 hq => ?_
  obtain ⟨g, rfl, g1, g2, h1, g3⟩ := hq
  rw [hr] at h1 g3
  conv => whnf
  refine EvCall.ret (must_ok h1 (decide (g ≤ 256))) (by simp [rsOf]) fun v w2 hF2 hq => ?_
  obtain ⟨rfl, h2⟩ := hq
  conv => whnf
  rw [mustL_mustL] at h2
  refine ⟨hF1.trans hF2, ?_⟩
  have e : mustL (valueL r kind) s = mustL ((wantL r kind).isSome && decide (g ≤ 256)) s := mustL_congr fun hb => by
    unfold valueL
    cases hw : wantL r kind with
    | none => rfl
    | some q => rw [g3 hb q hw]; rfl
  rw [e]; exact h2

def declL (slot : Int) (lt : Bool) (l : List Int) (sl : List Int) (se : Int → Option Bool) : Option (List Int × (Int → Option Bool)) :=
  if slot = sl.length then some (sl ++ l, setF se sl.length (some lt)) else none

/-- What a statement leaves behind. -/
def Res (s : Lk) (r : Option (List Int × (Int → Option Bool))) (s' : Lk) : Prop :=
  (s.bad = true → s'.bad = true) ∧ (s.bad = false → match r with | some q => s' = ⟨q.1, q.2, false⟩ | none => s'.bad = true)
def KeptV (vs vs' : Value) (w : World) : Prop := vs'.ownBlock = vs.ownBlock ∨ ∀ b, vs'.ownBlock = some b → w.heap.size ≤ b

theorem declare_ok {slot : Int} {lt : Bool} {l : List Int} {w0 : World} (h : LK B kb mr At ct t vs s w0) (hs : SeenIn s) (hl : s.slots.length ≤ 1000000) (hl2 : l.length ≤ 3) (hl3 : 0 < l.length) {g : Nat} (hg : HB w0 g 51 (l.map fun n => .int .i8 n)) (hgk : vs.ownBlock ≠ some g) :
    Ret Tryz.prog 97 [kp kb, .int .i64 slot, .bool lt, .slice (some ⟨g, 0, none⟩) l.length l.length] w0 (kb :: mr :: vs.ownBlock.toList)
      fun v w' => ∃ vs' s', LK B kb mr At ct t vs' s' w' ∧ KeptV vs vs' w0 ∧ Res s (declL slot lt l s.slots s.seen) s' ∧ SeenIn s' ∧ s'.slots.length ≤ s.slots.length + l.length := by
  obtain ⟨Av, cv, rfl, hcv, hAv, _⟩ := h.own.form
  have hkm := h.map.ne_cells h.blk
  have hvk := own_ne_blk h.own h.blk (by decide)
  have hvm := own_ne_map h.own h.map
  refine fn_go (cx_ok 36 []) wideOrders Tryz.func97 rfl rfl Tryz.call97 (by simp [cx]) ?_; conv => whnf
  refine EvLd.blk h.blk rfl ?_
  conv => whnf
  have hb0 : (slot == (s.slots.length : Int)) = decide (slot = s.slots.length) := by
    by_cases hh : slot = s.slots.length <;> simp [hh]
  rw [hb0]
  refine EvCall.ret (must_ok h _) (by simp [rsOf]) fun v w1 hF1 hq => ?_
  obtain ⟨rfl, h1⟩ := hq
  conv => whnf
  refine EvIf.any (fun b1 => ?_) (fun b1 => ?_)
  rotate_left
  · conv => whnf
    have hb : (mustL (decide (slot = s.slots.length)) s).bad = true := by simpa using b1
    refine ⟨hF1.mono (by simp), _, _, h1, .inl rfl, ⟨fun _ => hb, fun hbad => ?_⟩, hs, by simp [mustL]⟩
    have : ¬ slot = s.slots.length := fun e => by rw [decide_eq_true e, mustL_true, hbad] at hb; cases hb
    unfold declL
    rw [if_neg this]
    exact hb
  obtain ⟨hbad, hsl⟩ := mustL_ok (show (mustL (decide (slot = s.slots.length)) s).bad = false by simpa using b1)
  rw [hsl, mustL_true] at h1
  have hsl' := of_decide_eq_true hsl
  conv => whnf
  refine EvDraw.go (fun w' => Fr [] w1 w') (some 10) (.take 0 true (.take 1 true (.take 2 true (.take 3 true (.take 4 true (.take 5 true (.take 6 true (.take 7 true (.take 8 true (.take 9 true (.exec 10 .done))))))))))) (by kernel_rfl) ?_ ?_
  · exact Fr.drew _
  conv => whnf
  have hk1 : ∀ w', Fr [] w1 w' → HB w' kb 81 [.slice At t.length ct, .slice Av s.slots.length cv, .map (some mr), .bool s.bad] := fun w' hf => h1.blk.fr0 hf
  refine ⟨_, fun w' hw => (hk1 w' hw.1).add rfl, ?_⟩
  conv => whnf
  refine ⟨_, fun w' hw => (hk1 w' hw.1).add rfl, ?_⟩
  conv => whnf
  have hd := h1.fr0 (Fr.drew w1)
  refine EvDo.upd (cx_ok 0 []) rfl (KeyCls.int rfl) (Ky.int .i64) hd.map (s.slots.length : Int) (b := lt) rfl (by simp [rsOf]) fun w2 hF2 hM2 => ?_
  conv => whnf
  have hB2 := hd.blk.fr hF2 (by simpa using hkm.symm)
  refine EvLd.blk hB2 rfl ?_
  conv => whnf
  have hgb : g ≠ kb := hg.ne_ty h.blk (by decide)
  have hgm : mr ≠ g := h.map.ne_cells hg
  have hg2 := ((hg.fr hF1 (by simpa using hgb)).fr0 (Fr.drew w1)).fr hF2 (by simpa using hgm.symm)
  have hO2 := hd.own.fr hF2 (fun k hk hm => hvm (by simp at hm; rw [← hm]; exact hk))
  refine EvApp.lit (cx_ok 0 []) rfl (⟨rfl, rfl, rfl, rfl⟩ : El (cx 0 []) 51 1 1 [.int .i8 0]) (by omega) rfl hO2 (m := l.length) hg2 (by simp) (by simp [Value.oneCell']) (by omega) (by simp [maxLen]; omega) (by simp [rsOf]) fun v' w3 hO3 hF3 hat => ?_
  obtain ⟨Av', cv', rfl, _⟩ := hO3.form
  have hB3 := hB2.fr hF3 (fun hm => hvk (toList_some.1 hm))
  conv => whnf
  refine EvSt.blk hB3 rfl rfl (by simp [rsOf]) fun w4 hF4 hB4 => ?_
  conv => whnf
  have hvk3 := own_ne_blk hO3 hB3 (by decide)
  have hO4 := hO3.fr hF4 (fun k hk hm => hvk3 (by simp at hm; rw [← hm]; exact hk))
  have hM3 := hM2.fr hF3 (fun hm => hvm (toList_some.1 hm))
  have hM4 := hM3.fr hF4 (by simpa using hkm)
  have hs1 := hF1.size
  have hs2 := hF2.size
  have hsd : w1.heap.size ≤ w1.drew.heap.size := (Fr.drew w1).size
  have hF04 : Fr (kb :: mr :: (Value.slice Av s.slots.length cv).ownBlock.toList) w0 w4 := by
    have a1 : Fr (kb :: mr :: (Value.slice Av s.slots.length cv).ownBlock.toList) w0 w1 := hF1.mono (by simp)
    have a2 : Fr (kb :: mr :: (Value.slice Av s.slots.length cv).ownBlock.toList) w1 w1.drew := (Fr.drew w1).nil
    have a3 : Fr (kb :: mr :: (Value.slice Av s.slots.length cv).ownBlock.toList) w1.drew w2 := hF2.mono (by simp)
    have a4 : Fr (kb :: mr :: (Value.slice Av s.slots.length cv).ownBlock.toList) w2 w3 := hF3.mono (fun x hx => by simp [hx])
    have a5 : Fr (kb :: mr :: (Value.slice Av s.slots.length cv).ownBlock.toList) w3 w4 := hF4.mono (by simp)
    exact (((a1.trans a2).trans a3).trans a4).trans a5
  have hnew : ∀ b, (Value.slice Av' (s.slots.length + l.length) cv').ownBlock = some b → (Value.slice Av s.slots.length cv).ownBlock = some b ∨ w0.heap.size ≤ b := fun b hb => by
    rcases hat with e | e
    · rw [e] at hb; exact .inl hb
    · rw [e] at hb; injection hb with hb; exact .inr (by omega)
  refine ⟨hF04, .slice Av' (s.slots.length + l.length) cv', ⟨s.slots ++ l, setF s.seen s.slots.length (some lt), false⟩, ⟨?_, ?_, h.low, ?_, hM4, h.hk, h.hm, ?_⟩, ?_, ⟨fun e => (by rw [hbad] at e; cases e), fun _ => ?_⟩, ?_, by simp⟩
  · rw [hbad] at hB4; exact hB4
  · refine Rows.frQ h.tree h.low hF04 fun b hb hm => ?_
    have := h.hk
    have := h.hm
    simp only [List.mem_cons] at hm
    rcases hm with rfl | rfl | hm
    · omega
    · omega
    · have := h.hv b (toList_some.1 hm); omega
  · simpa using hO4
  · intro b hb
    rcases hnew b hb with e | e
    · exact h.hv b e
    · have := h.hk; have := h.blk.lt; omega
  · rcases hat with e | e
    · exact .inl e
    · refine .inr fun b hb => ?_
      rw [e] at hb; injection hb with hb; omega
  · unfold declL; rw [if_pos hsl']
  · intro k b hk
    have hk' : setF s.seen (s.slots.length : Int) (some lt) k = some b := hk
    show 0 ≤ k ∧ k < ((s.slots ++ l).length : Int)
    rw [List.length_append]
    by_cases hkk : k = s.slots.length
    · subst hkk; omega
    · rw [setF_ne _ _ hkk] at hk'
      have := hs k b hk'
      omega

theorem many_ok {w0 : World} (h : LK B kb mr At ct t vs s w0) {Al : Option Addr} {cl : Nat} {l : List Int} (hl : IntsAt w0 Al l) (hll : l.length ≤ 10) {r2 r5 T2 T5 : Nat} (h2 : HB w0 r2 T2 [kp kb]) {A : Option Addr} {n c : Nat} (h5 : HB w0 r5 T5 [.slice A n c]) :
    Ret Tryz.prog 95 [.slice Al l.length cl, .pointer (some ⟨r2, 0, none⟩), .pointer (some ⟨r5, 0, none⟩)] w0 [kb]
      fun v w' => v = .bool (!(mustL (l.contains (n : Int)) s).bad) ∧ LK B kb mr At ct t vs (mustL (l.contains (n : Int)) s) w' := by
  have n2 : r2 ≠ kb := by rintro rfl; have := (h2.uniq h.blk).2; cases this
  have n5 : r5 ≠ kb := by rintro rfl; have := (h5.uniq h.blk).2; cases this
  refine fn_go (cx_ok 11 []) wideOrders Tryz.func95 rfl rfl Tryz.call95 (by simp [cx]) ?_; conv => whnf
  refine EvDraw.go (fun w' => Fr [kb] w0 w') none (.take 0 true (.take 1 true (.take 2 true (.take 3 true (.exec 4 (.exec 5 (.take 6 true .done))))))) (by kernel_rfl) ?_ ?_
  · exact (Fr.drew _).nil
  conv => whnf
  refine ⟨_, fun w' hw => (h2.fr hw.1 (by simpa using n2)).cell rfl, ?_⟩
  conv => whnf
  refine ⟨_, fun w' hw => (h5.fr hw.1 (by simpa using n5)).cell rfl, ?_⟩
  conv => whnf
  have hd := Fr.drew w0
  refine EvCall.ret0 (contains_ok Al cl l n w0.drew (hl.fr0 hd) (by omega)) fun u w1 hF1 hq => ?_
  obtain ⟨rfl, rfl⟩ := hq
  conv => whnf
  refine ⟨hd.nil, ?_⟩
  conv => whnf
  refine EvCall.ret (must_ok (h.fr0 hd) _) (by simp [rsOf]) fun u w2 hF2 hq => ?_
  obtain ⟨rfl, h3⟩ := hq
  conv => whnf
  refine ⟨hd.nil.trans hF2, ?_⟩
  conv => whnf
  exact ⟨hd.nil.trans hF2, rfl, h3⟩
end
end Go.Proofs.Tab
