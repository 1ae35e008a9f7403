/- The law EmitWhole: its walk. No condition. -/
import Derived.Test.YtmjalmocaiokhaaGreatWhole
set_option linter.unusedVariables false
set_option linter.unusedSimpArgs false
set_option maxRecDepth 100000
namespace Go.Proofs.Tab
open Go Go.Fw

theorem mem_sum {α : Type} (f : α → Nat) {x : α} : ∀ {l : List α}, x ∈ l → f x ≤ (l.map f).sum
  | [], h => by cases h
  | a :: l, h => by
    rw [List.map_cons, List.sum_cons]
    rcases List.mem_cons.1 h with rfl | h
    · omega
    · have := mem_sum f h; omega
theorem sum_mono {α : Type} {f g : α → Nat} : ∀ {l : List α}, (∀ x ∈ l, f x ≤ g x) → (l.map f).sum ≤ (l.map g).sum
  | [], _ => by simp
  | a :: l, h => by
    have h1 := h a (by simp)
    have h2 := sum_mono (l := l) fun x hx => h x (by simp [hx])
    simp; omega
theorem sum_mul {α : Type} (k : Nat) (f : α → Nat) : ∀ l : List α, (l.map fun x => k * f x).sum = k * (l.map f).sum
  | [] => by simp
  | a :: l => by simp [sum_mul k f l, Nat.mul_add]
theorem len_sum {α : Type} {f : α → Nat} : ∀ {l : List α}, (∀ x ∈ l, 1 ≤ f x) → l.length ≤ (l.map f).sum
  | [], _ => by simp
  | a :: l, h => by
    have h1 := h a (by simp)
    have h2 := len_sum (l := l) fun x hx => h x (by simp [hx])
    simp; omega
theorem flat_le {α β : Type} {g : α → List β} {f : α → Nat} (k : Nat) : ∀ {l : List α}, (∀ x ∈ l, (g x).length ≤ k * f x) → (l.flatMap g).length ≤ k * (l.map f).sum
  | [], _ => by simp
  | a :: l, h => by
    have h1 := h a (by simp)
    have h2 := flat_le k (l := l) fun x hx => h x (by simp [hx])
    rw [List.flatMap_cons, List.length_append, List.map_cons, List.sum_cons, Nat.mul_add]; omega
theorem intsN_le (x : Nd) : (intsN x).length ≤ 3 := by unfold intsN; split <;> (try split) <;> (try split) <;> simp
theorem textsN_le (x : Nd) : (textsN x).length ≤ 1 := by unfold textsN; split <;> simp

structure Szs (l : List Ds) (N : Nat) : Prop where
  len : l.length ≤ N
  tags : ∀ d ∈ l, d.tags.length ≤ N
  able : ∀ d ∈ l, d.able.length ≤ N
  slots : ∀ d ∈ l, ∀ a ∈ d.able, a.slots.length ≤ N
  tree : ∀ d ∈ l, ∀ a ∈ d.able, a.tree.length ≤ N
  ints : (poolI l).length ≤ 3 * N
  texts : (poolT l).length ≤ N
theorem szs_of {l : List Ds} {N : Nat} (h : sizeDss l ≤ N) : Szs l N := by
  unfold sizeDss at h
  have hd : ∀ d ∈ l, sizeDs d ≤ N := fun d hd => by have := mem_sum sizeDs hd; omega
  have ha : ∀ d ∈ l, ∀ a ∈ d.able, 1 + sizeAb a ≤ N := fun d hd' a ha => by
    have h1 := hd d hd'
    have h2 := mem_sum (fun a => 1 + sizeAb a) ha
    unfold sizeDs at h1
    omega
  have hI : ∀ d : Ds, (d.able.flatMap fun a => a.tree.flatMap intsN).length ≤ 3 * sizeDs d := fun d => by
    have h1 := flat_le (g := fun a : Ab => a.tree.flatMap intsN) (f := fun a => 1 + sizeAb a) 3 (l := d.able) fun a _ => by
      have h2 := flat_le (g := intsN) (f := fun _ => 1) 3 (l := a.tree) fun x _ => intsN_le x
      simp only [List.map_const', List.sum_replicate_nat] at h2
      unfold sizeAb sizeNodes
      omega
    unfold sizeDs
    omega
  have hT : ∀ d : Ds, (d.name :: (d.tags ++ d.able.flatMap fun a => a.tree.flatMap textsN)).length ≤ 1 + sizeDs d := fun d => by
    have h1 := flat_le (g := fun a : Ab => a.tree.flatMap textsN) (f := fun a => 1 + sizeAb a) 1 (l := d.able) fun a _ => by
      have h2 := flat_le (g := textsN) (f := fun _ => 1) 1 (l := a.tree) fun x _ => textsN_le x
      simp only [List.map_const', List.sum_replicate_nat] at h2
      unfold sizeAb sizeNodes
      omega
    unfold sizeDs sizeTexts
    rw [List.length_cons, List.length_append]
    omega
  refine ⟨by omega, fun d hd' => ?_, fun d hd' => ?_, fun d hd' a ha' => ?_, fun d hd' a ha' => ?_, ?_, ?_⟩
  · have := hd d hd'; unfold sizeDs sizeTexts at this; omega
  · have h1 := hd d hd'
    have h2 := len_sum (l := d.able) (f := fun a => 1 + sizeAb a) fun a _ => by omega
    unfold sizeDs at h1; omega
  · have := ha d hd' a ha'; unfold sizeAb at this; omega
  · have := ha d hd' a ha'; unfold sizeAb sizeNodes at this; omega
  · have := flat_le (g := fun d : Ds => d.able.flatMap fun a => a.tree.flatMap intsN) (f := sizeDs) 3 (l := l) fun d _ => hI d
    unfold poolI; omega
  · have := flat_le (g := fun d : Ds => d.name :: (d.tags ++ d.able.flatMap fun a => a.tree.flatMap textsN)) (f := fun d => 1 + sizeDs d) 1 (l := l) fun d _ => by have := hT d; omega
    have e : (l.map fun d => 1 + sizeDs d).sum = l.length + (l.map sizeDs).sum := by
      clear this h hd ha
      induction l with
      | nil => rfl
      | cons a l ih => simp [ih]; omega
    unfold poolT; omega

theorem TextsAt.idx' {w : World} {A : Option Addr} {l : List ByteArray} (h : TextsAt w A l) {n sz i : Nat} {z : Int} {K : Addr → Prop} (h1 : i < l.length) (hz : z = (i : Int)) (hn : n = l.length) (hs : sz = 1) (k : ∀ a, A = some a → K (a.add i)) : EvIdx A n z sz K := by subst hz; exact TextsAt.idx h h1 hn hs k
theorem TextsAt.cell {w : World} {A : Option Addr} {l : List ByteArray} (h : TextsAt w A l) {a : Addr} (ha : A = some a) {i : Nat} (hi : i < l.length) : w.cell? (a.add i) = some (.string l[i]) := by
  have := Rows.cell h ha (i := i) (j := 0) (r := [.string l[i]]) (v := .string l[i]) (by rw [List.getElem?_map, List.getElem?_eq_getElem hi]; rfl) rfl
  simpa using this
theorem run_geq {a b : ByteArray} (h : ltB a b) (t : Nat) (w : World) : (binOp .geq t (.string a) (.string b)).run Tryz.prog w = .ok (.bool false) w := by
  have e : Op.bytesLess a.toList b.toList = true := by rw [bytesLess_eq, Lib.toList_data, Lib.toList_data]; exact decide_eq_true h
  simp [binOp, Op.stringOp, e]

theorem emitWhole_ok {A : Option Addr} {c : Nat} {l : List Ds} {w : World} (hl : DssIn All w A l) (hs : SmDss l) :
    Ret Tryz.prog 3 [.slice A l.length c] w [] fun v w' => v = .bool true := by
  refine fn_go (cx_ok 135 [9]) wideOrders Tryz.func3 rfl rfl Tryz.call3 (by simp [cx]) ?_; conv => whnf
  refine EvCall.ret0 (sizeDss_ok A c l w hl hs) fun v w1 hF1 hq => ?_
  obtain ⟨m, rfl, hm0, hm⟩ := hq
  conv => whnf
  refine EvCall.ret0 (long_ok m w1) fun v w1' hF1' hq => ?_
  obtain ⟨rfl, rfl⟩ := hq
  conv => whnf
  refine EvIf.dec (fun h1 => ?_) (fun h1 => ?_)
  · conv => whnf
    exact ⟨hF1, rfl⟩
  have hsz := szs_of (l := l) (N := 16777216) (by have := hm (by omega); omega)
  conv => whnf
  refine EvCall.ret0 (copyDss_ok A c l w1' (hl.fr0 hF1) (by have := hsz.len; omega) (fun d hd => ⟨by have := hsz.tags d hd; omega, by have := hsz.able d hd; omega, fun a ha => ⟨by have := hsz.slots d hd a ha; omega, by have := hsz.tree d hd a ha; omega⟩⟩)) fun v w2 hF2 hq => ?_
  obtain ⟨A2, c2, rfl, hl2⟩ := hq
  conv => whnf
  refine EvCall.ret0 (pools_ok rising_I rising_T A2 c2 l w2 (hl2.imp fun _ _ => trivial) (by have := hsz.len; omega) (fun d hd => ⟨by have := hsz.tags d hd; omega, by have := hsz.able d hd; omega, fun a ha => by have := hsz.tree d hd a ha; omega⟩) (by have := hsz.ints; omega) (by have := hsz.texts; omega)) fun v w3 hF3 hq => ?_
  obtain ⟨vi, vt, rfl, ⟨ints, hOi, hBi, hsi, hmi⟩, ⟨texts, hOt, hBt, hst, hmt⟩⟩ := hq
  obtain ⟨Ai, ci, rfl, _⟩ := hOi.form
  obtain ⟨At, ct, rfl, _⟩ := hOt.form
  have hF := (hF1.trans hF2).trans hF3
  have hIi : IntsAt w3 Ai ints := Own.rows (rows := ints.map fun x => [.int .i64 x]) hOi (by rw [flat_one]) (by simp) (by simp)
  have hIt : TextsAt w3 At texts := Own.rows (rows := texts.map fun x => [.string x]) hOt (by rw [flat_one]) (by simp) (by simp)
  have hl3 : DssIn All w3 A l := ((hl.fr0 hF1).fr0 hF2).fr0 hF3
  have hlen := hsz.len
  clear hOi hOt hBi hBt hl2 hl hF1 hF2 hF3
  conv => whnf
  refine EvSplit.gt (fun g1 => ?_) (fun g1 => ?_)
  · conv => whnf
    refine EvCall.ret0 (works_ok _) fun v w9 hF9 hq => ?_
    subst hq
    conv => whnf
    exact ⟨hF.trans hF9, rfl⟩
  conv => whnf
  refine EvIf.gt (fun g2 => ?_) (fun g2 => ?_)
  · conv => whnf
    refine EvCall.ret0 (works_ok _) fun v w9 hF9 hq => ?_
    subst hq
    conv => whnf
    exact ⟨hF.trans hF9, rfl⟩
  conv => whnf
  refine EvLoop.meetG Nat (fun i => ⟨[(0, .v (.slice A l.length c)), (3, .v (.slice Ai ints.length ci)), (4, .v (.slice At texts.length ct)), (5, .v (.int .i64 i))], [], 0⟩)
    (fun i w' => i ≤ ints.length ∧ Fr [] w3 w') (fun i => ints.length - i) 0
    Unit (.exit 0) (fun _ => ⟨[(0, .v (.slice A l.length c)), (3, .v (.slice Ai ints.length ci)), (4, .v (.slice At texts.length ct))], [], 0⟩)
    (fun _ w' => Fr [] w3 w') (by (refine SubS.mk ?_ ?_ <;> (repeat' (first | exact True.intro | refine And.intro ?_ ?_)) <;> (first | rfl | exact svi (by omega) | exact List.mem_cons_self | exact List.mem_cons_of_mem _ List.mem_cons_self | exact List.mem_cons_of_mem _ (List.mem_cons_of_mem _ List.mem_cons_self) | skip))) ⟨by omega, Fr.refl _ _⟩ ?_ ?_
  · rintro K1 hK1 i w4 ⟨hi, hF4⟩
    have hI4 : IntsAt w4 Ai ints := Rows.fr0 hIi hF4
    conv => whnf
    refine EvAr.i64 (by omega) ?_; conv => whnf
    refine EvIf.lt (fun g => ?_) (fun g => ?_)
    rotate_left
    · conv => whnf
      exact hK1 () _ _ (by (refine SubS.mk ?_ ?_ <;> (repeat' (first | exact True.intro | refine And.intro ?_ ?_)) <;> (first | rfl | exact svi (by omega) | exact List.mem_cons_self | exact List.mem_cons_of_mem _ List.mem_cons_self | exact List.mem_cons_of_mem _ (List.mem_cons_of_mem _ List.mem_cons_self) | skip))) hF4
    have hi1 : i < ints.length := by omega
    have hi2 : i + 1 < ints.length := by omega
    conv => whnf
    refine EvDraw.go (fun w' => Fr [] w4 w') none (.take 0 true (.take 1 true (.take 2 true (.take 3 true (.take 4 true (.take 5 true (.take 6 true (.take 7 true (.take 8 true (.take 9 true .done)))))))))) (by kernel_rfl) ?_ ?_
    · exact Fr.drew _
    conv => whnf
    refine EvIdx.ints hI4 (by omega) (by omega) rfl rfl fun a ha => ?_
    conv => whnf
    refine ⟨_, fun w' hw => IntsAt.cell (Rows.fr0 hI4 hw.1) ha (i := (i : Int).toNat) (x := ints[i]) (by rw [Int.toNat_natCast]; exact List.getElem?_eq_getElem hi1), ?_⟩
    conv => whnf
    refine EvAr.i64 (by omega) ?_; conv => whnf
    refine EvIdx.ints hI4 (by omega) (by omega) rfl rfl fun b hb => ?_
    conv => whnf
    refine ⟨_, fun w' hw => IntsAt.cell (Rows.fr0 hI4 hw.1) hb (i := ((i : Int) + 1).toNat) (x := ints[i + 1]) (by rw [show ((i : Int) + 1).toNat = i + 1 by omega]; exact List.getElem?_eq_getElem hi2), ?_⟩
    have hlt : ints[i] < ints[i + 1] := List.pairwise_iff_getElem.1 hsi i (i + 1) hi1 hi2 (by omega)
    conv => whnf
    refine EvIf.ge (fun g3 => ?_) (fun g3 => ?_)
    · omega
    conv => whnf
    refine EvAr.i64 (by omega) ?_; conv => whnf
    exact ⟨i + 1, by (refine SubS.mk ?_ ?_ <;> (repeat' (first | exact True.intro | refine And.intro ?_ ?_)) <;> (first | rfl | exact svi (by omega) | exact List.mem_cons_self | exact List.mem_cons_of_mem _ List.mem_cons_self | exact List.mem_cons_of_mem _ (List.mem_cons_of_mem _ List.mem_cons_self) | skip)), ⟨by omega, hF4.trans (Fr.drew _)⟩, by omega⟩
  rintro _ w3' hF3'
  conv => whnf
  refine EvLoop.meetG Nat (fun i => ⟨[(0, .v (.slice A l.length c)), (3, .v (.slice Ai ints.length ci)), (4, .v (.slice At texts.length ct)), (6, .v (.int .i64 i))], [], 0⟩)
    (fun i w' => i ≤ texts.length ∧ Fr [] w3 w') (fun i => texts.length - i) 0
    Unit (.exit 2) (fun _ => ⟨[(0, .v (.slice A l.length c)), (3, .v (.slice Ai ints.length ci)), (4, .v (.slice At texts.length ct))], [], 0⟩)
    (fun _ w' => Fr [] w3 w') (by (refine SubS.mk ?_ ?_ <;> (repeat' (first | exact True.intro | refine And.intro ?_ ?_)) <;> (first | rfl | exact svi (by omega) | exact List.mem_cons_self | exact List.mem_cons_of_mem _ List.mem_cons_self | exact List.mem_cons_of_mem _ (List.mem_cons_of_mem _ List.mem_cons_self) | skip))) ⟨by omega, hF3'⟩ ?_ ?_
  · rintro K1 hK1 i w4 ⟨hi, hF4⟩
    have hT4 : TextsAt w4 At texts := Rows.fr0 hIt hF4
    conv => whnf
    refine EvAr.i64 (by omega) ?_; conv => whnf
    refine EvIf.lt (fun g => ?_) (fun g => ?_)
    rotate_left
    · conv => whnf
      exact hK1 () _ _ (by (refine SubS.mk ?_ ?_ <;> (repeat' (first | exact True.intro | refine And.intro ?_ ?_)) <;> (first | rfl | exact svi (by omega) | exact List.mem_cons_self | exact List.mem_cons_of_mem _ List.mem_cons_self | exact List.mem_cons_of_mem _ (List.mem_cons_of_mem _ List.mem_cons_self) | skip))) hF4
    have hi1 : i < texts.length := by omega
    have hi2 : i + 1 < texts.length := by omega
    conv => whnf
    refine EvDraw.go (fun w' => Fr [] w4 w') none (.take 0 true (.take 1 true (.take 2 true (.take 3 true (.take 4 true (.take 5 true (.take 6 true (.take 7 true (.take 8 true (.take 9 true .done)))))))))) (by kernel_rfl) ?_ ?_
    · exact Fr.drew _
    conv => whnf
    refine TextsAt.idx hT4 hi1 rfl rfl fun a ha => ?_
    conv => whnf
    refine ⟨_, fun w' hw => TextsAt.cell (Rows.fr0 hT4 hw.1) ha hi1, ?_⟩
    conv => whnf
    refine EvAr.i64 (by omega) ?_; conv => whnf
    refine TextsAt.idx' hT4 hi2 (by omega) rfl rfl fun b hb => ?_
    conv => whnf
    refine ⟨_, fun w' hw => TextsAt.cell (Rows.fr0 hT4 hw.1) hb hi2, ?_⟩
    have hlt : ltB texts[i] texts[i + 1] := List.pairwise_iff_getElem.1 hst i (i + 1) hi1 hi2 (by omega)
    conv => whnf
    refine ⟨.bool false, fun w' _ => run_geq hlt _ w', ?_⟩
    conv => whnf
    refine EvIf.ff ?_
    conv => whnf
    refine EvAr.i64 (by omega) ?_; conv => whnf
    exact ⟨i + 1, by (refine SubS.mk ?_ ?_ <;> (repeat' (first | exact True.intro | refine And.intro ?_ ?_)) <;> (first | rfl | exact svi (by omega) | exact List.mem_cons_self | exact List.mem_cons_of_mem _ List.mem_cons_self | exact List.mem_cons_of_mem _ (List.mem_cons_of_mem _ List.mem_cons_self) | skip)), ⟨by omega, hF4.trans (Fr.drew _)⟩, by omega⟩
  rintro _ w3'' hF3''
  clear hF3'
  conv => whnf
  refine EvLoop.meetG Nat (fun i => ⟨[(0, .v (.slice A l.length c)), (3, .v (.slice Ai ints.length ci)), (4, .v (.slice At texts.length ct)), (7, .v (.int .i64 i))], [], 0⟩)
    (fun i w' => i ≤ l.length ∧ Fr [] w3 w') (fun i => l.length - i) 0
    Unit (.exit 4) (fun _ => ⟨[], [], 0⟩)
    (fun _ w' => Fr [] w3 w') (by (refine SubS.mk ?_ ?_ <;> (repeat' (first | exact True.intro | refine And.intro ?_ ?_)) <;> (first | rfl | exact svi (by omega) | exact List.mem_cons_self | exact List.mem_cons_of_mem _ List.mem_cons_self | exact List.mem_cons_of_mem _ (List.mem_cons_of_mem _ List.mem_cons_self) | skip))) ⟨by omega, hF3''⟩ ?_ ?_
  rotate_left
  · rintro _ w4 hF4
    replace hF := hF.trans hF4
    conv => whnf
    refine EvCall.ret0 (works_ok _) fun v w9 hF9 hq => ?_
    subst hq
    conv => whnf
    exact ⟨hF.trans hF9, rfl⟩
  clear hF3''
  rintro K1 hK1 i w4 ⟨hi, hF4⟩
  conv => whnf
  refine EvIf.lt (fun g => ?_) (fun g => ?_)
  rotate_left
  · conv => whnf
    exact hK1 () _ _ (by (refine SubS.mk ?_ ?_ <;> (repeat' (first | exact True.intro | refine And.intro ?_ ?_)) <;> (first | rfl | exact svi (by omega) | exact List.mem_cons_self | exact List.mem_cons_of_mem _ List.mem_cons_self | exact List.mem_cons_of_mem _ (List.mem_cons_of_mem _ List.mem_cons_self) | skip))) hF4
  have hil : i < l.length := by omega
  have hmd := List.getElem_mem hil
  obtain ⟨a, r, ha, hblt, hr, hrel, hcells⟩ := RowsOf.get hl3.1 hil
  obtain ⟨Ag, cg, Aa, ca, rfl, ht, hab, _⟩ := hrel
  conv => whnf
  refine EvLoop.meetG Nat (fun k => ⟨[(0, .v (.slice A l.length c)), (3, .v (.slice Ai ints.length ci)), (4, .v (.slice At texts.length ct)), (7, .v (.int .i64 i)), (8, .v (.int .i64 k))], [], 0⟩)
    (fun k w' => k ≤ l[i].able.length ∧ Fr [] w3 w') (fun k => l[i].able.length - k) 0
    Unit (.exit 6) (fun _ => ⟨[(0, .v (.slice A l.length c)), (3, .v (.slice Ai ints.length ci)), (4, .v (.slice At texts.length ct)), (7, .v (.int .i64 i))], [], 0⟩)
    (fun _ w' => Fr [] w3 w') (by (refine SubS.mk ?_ ?_ <;> (repeat' (first | exact True.intro | refine And.intro ?_ ?_)) <;> (first | rfl | exact svi (by omega) | exact List.mem_cons_self | exact List.mem_cons_of_mem _ List.mem_cons_self | exact List.mem_cons_of_mem _ (List.mem_cons_of_mem _ List.mem_cons_self) | skip))) ⟨by omega, hF4⟩ ?_ ?_
  rotate_left
  · rintro _ w5 hF5
    conv => whnf
    refine EvAr.i64 (by omega) ?_; conv => whnf
    exact ⟨i + 1, by (refine SubS.mk ?_ ?_ <;> (repeat' (first | exact True.intro | refine And.intro ?_ ?_)) <;> (first | rfl | exact svi (by omega) | exact List.mem_cons_self | exact List.mem_cons_of_mem _ List.mem_cons_self | exact List.mem_cons_of_mem _ (List.mem_cons_of_mem _ List.mem_cons_self) | skip)), ⟨by omega, hF5⟩, by omega⟩
  clear hF4
  rintro K2 hK2 k w5 ⟨hk, hF5⟩
  conv => whnf
  refine EvIdx.nat ha hil ?_
  conv => whnf
  refine EvLd.row (fun j v hj => cell_fr0 (hcells j v hj) hF5) (j := 5) rfl ?_
  conv => whnf
  refine EvIf.lt (fun g' => ?_) (fun g' => ?_)
  rotate_left
  · conv => whnf
    exact hK2 () _ _ (by (refine SubS.mk ?_ ?_ <;> (repeat' (first | exact True.intro | refine And.intro ?_ ?_)) <;> (first | rfl | exact svi (by omega) | exact List.mem_cons_self | exact List.mem_cons_of_mem _ List.mem_cons_self | exact List.mem_cons_of_mem _ (List.mem_cons_of_mem _ List.mem_cons_self) | skip))) hF5
  have hkl : k < l[i].able.length := by omega
  have hma := List.getElem_mem hkl
  have hzk := hsz.able _ hmd
  obtain ⟨a3, r3, ha3, hblt3, hr3, hrel3, hcells3⟩ := RowsOf.get hab.1 hkl
  have hrel3' := hrel3
  obtain ⟨As, cs, Av, cv, rfl, hslots, htree, _, _⟩ := hrel3'
  have hsa : SmAb l[i].able[k] := (hs.2 _ hmd).2.2.2 _ hma
  have hz1 := hsz.slots _ hmd _ hma
  have hz2 := hsz.tree _ hmd _ hma
  have hpi : ∀ x ∈ l[i].able[k].tree, ∀ n ∈ intsN x, n ∈ ints := fun x hx n hn => (hmi n).2 (List.mem_flatMap.2 ⟨_, hmd, List.mem_flatMap.2 ⟨_, hma, List.mem_flatMap.2 ⟨x, hx, hn⟩⟩⟩)
  have hpx : ∀ x ∈ l[i].able[k].tree, ∀ n ∈ textsN x, n ∈ texts := fun x hx n hn => (hmt n).2 (List.mem_flatMap.2 ⟨_, hmd, List.mem_cons_of_mem _ (List.mem_append_right _ (List.mem_flatMap.2 ⟨_, hma, List.mem_flatMap.2 ⟨x, hx, hn⟩⟩))⟩)
  generalize hx : l[i].able[k] = ab at hsa hz1 hz2 hpi hpx hslots htree hcells3 hrel3
  conv => whnf
  refine EvIdx.nat ha hil ?_
  conv => whnf
  refine EvLd.row (fun j v hj => cell_fr0 (hcells j v hj) hF5) (j := 5) rfl ?_
  conv => whnf
  refine EvIdx.nat ha3 hkl ?_
  conv => whnf
  refine EvLdN.row (r := ab.cells As cs Av cv) (fun j v hj => cell_fr0 (hcells3 j v hj) hF5) rfl ?_
  conv => whnf
  refine EvNew.blk fun g9 w6 hg9 hz9 hF6 hB6 => ?_
  conv => whnf
  refine EvDo.storeBlk (vs := ab.cells As cs Av cv) (cx_ok 0 []) rfl hB6 rfl rfl (by simp [Ab.cells, Value.oneCell']) (by simp [rsOf]) fun w7 hF7 hB7 => ?_
  have hF37 := hF5.trans (hF6.trans' hF7 (by simp; omega))
  conv => whnf
  refine EvLdN.row (r := ab.cells As cs Av cv) (i := 0) (sz := 0) (fun j v hj => hB7.add0 hj) rfl ?_
  conv => whnf
  refine EvCall.ret0 (copyAb_ok (ab.cells As cs Av cv) ab w7 (hrel3.fr0 hF37) (by omega) (by omega)) fun v w8 hF8 hq => ?_
  obtain ⟨_, rfl, As', cs', At', ct', rfl, hS', hT', hQ1, hQ2⟩ := hq
  have hF38 := hF37.trans hF8
  conv => whnf
  refine EvCall.ret0 (copyLongs_ok Ai ints.length ci (ints.map fun x => [.int .i64 x]) w8 (Rows.fr0 hIi hF38) (by simp) (by simp [Value.oneCell']) (by omega)) fun v w9 hF9 hq => ?_
  obtain ⟨hOi9, hBi9⟩ := hq
  rw [flat_one] at hOi9
  obtain ⟨Ai9, ci9, rfl, _⟩ := hOi9.form
  have hIi9 : IntsAt w9 Ai9 ints := Own.rows (rows := ints.map fun x => [.int .i64 x]) hOi9 (by rw [flat_one]) (by simp) (by simp)
  have hF39 := hF38.trans hF9
  conv => whnf
  refine EvCall.ret0 (copyTexts_ok At texts.length ct (texts.map fun x => [.string x]) w9 (Rows.fr0 hIt hF39) (by simp) (by simp [Value.oneCell']) (by omega)) fun v w10 hF10 hq => ?_
  obtain ⟨hOt10, hBt10⟩ := hq
  rw [flat_one] at hOt10
  obtain ⟨At10, ct10, rfl, _⟩ := hOt10.form
  have hIt10 : TextsAt w10 At10 texts := Own.rows (rows := texts.map fun x => [.string x]) hOt10 (by rw [flat_one]) (by simp) (by simp)
  have hF3a := hF39.trans hF10
  have hs10 := (hF9.trans hF10).size
  conv => whnf
  refine EvCall.ret0 (emitAble_ok (Rows.fr0 (Rows.fr0 hS' hF9) hF10) (Rows.fr0 (Rows.fr0 hT' hF9) hF10) (fun x hx => by have := (hQ2 x hx).2; omega) hsa (Rows.fr0 hIi9 hF10) hIt10 (by omega) (by omega)) fun v w11 hF11 hq => ?_
  have hF3b := hF3a.trans hF11
  have hB11 := ((hB7.fr0 hF8).fr0 (hF9.trans hF10)).fr0 hF11
  rcases hq.h with ⟨hn, rfl⟩ | ⟨f, hf, hq⟩
  · conv => whnf
    refine EvSplit.tt ?_
    conv => whnf
    refine EvIf.tt ?_
    conv => whnf
    refine EvAr.i64 (by omega) ?_; conv => whnf
    exact ⟨k + 1, by (refine SubS.mk ?_ ?_ <;> (repeat' (first | exact True.intro | refine And.intro ?_ ?_)) <;> (first | rfl | exact svi (by omega) | exact List.mem_cons_self | exact List.mem_cons_of_mem _ List.mem_cons_self | exact List.mem_cons_of_mem _ (List.mem_cons_of_mem _ List.mem_cons_self) | skip)), ⟨by omega, hF3b⟩, by omega⟩
  obtain ⟨hb, hlen2, hwc⟩ := code_whole (ints := ints) (texts := texts) hf (by omega) (by omega) hpi hpx
  have htl := hf.tl
  rcases hq with ⟨hb', _⟩ | ⟨_, bv, rfl, hO, hlo⟩
  · rw [hb] at hb'; cases hb'
  generalize hcode : codeOf ints texts ab f = code at hlen2 hwc hO
  obtain ⟨A12, c12, rfl, hc12, _⟩ := hO.form
  have hb12 : BytesAt w11 A12 code := Own.rows (rows := code.map fun x => [.int .u8 x]) hO (by rw [flat_one]) (by simp) (by simp)
  conv => whnf
  refine EvSplit.ff ?_
  conv => whnf
  refine EvSplit.ff ?_
  conv => whnf
  refine EvLd.blk hB11 rfl ?_
  conv => whnf
  refine EvAr.i64 (by omega) ?_; conv => whnf
  refine EvAr.i64 (by omega) ?_; conv => whnf
  refine EvSplit.gt (fun q1 => ?_) (fun q1 => ?_)
  · omega
  conv => whnf
  refine EvSplit.gt (fun q2 => ?_) (fun q2 => ?_)
  · omega
  conv => whnf
  refine EvLd.blk hB11 rfl ?_
  conv => whnf
  refine EvCall.ret0 (whole_ok hb12 hc12 (by omega) hwc) fun v w12 hF12 hq => ?_
  subst hq
  conv => whnf
  refine EvIf.ff ?_
  conv => whnf
  refine EvAr.i64 (by omega) ?_; conv => whnf
  exact ⟨k + 1, by (refine SubS.mk ?_ ?_ <;> (repeat' (first | exact True.intro | refine And.intro ?_ ?_)) <;> (first | rfl | exact svi (by omega) | exact List.mem_cons_self | exact List.mem_cons_of_mem _ List.mem_cons_self | exact List.mem_cons_of_mem _ (List.mem_cons_of_mem _ List.mem_cons_self) | skip)), ⟨by omega, hF3b.trans hF12⟩, by omega⟩
end Go.Proofs.Tab
