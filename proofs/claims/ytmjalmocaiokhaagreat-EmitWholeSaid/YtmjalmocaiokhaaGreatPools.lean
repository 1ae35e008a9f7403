/- SizeDesigns; package emit: Pools. No condition. -/
import Derived.Test.YtmjalmocaiokhaaGreatSize
import Derived.Test.YtmjalmocaiokhaaGreatEmitU
set_option linter.unusedVariables false
set_option linter.unusedSimpArgs false
set_option maxRecDepth 100000
namespace Go.Proofs.Tab
open Go Go.Fw

theorem cell_fr0 {w w' : World} {a : Addr} {v : Value} (h : w.cell? a = some v) (hF : Fr [] w w') : w'.cell? a = some v := (hF.cell (World.block_lt_of_cell? w a h) (by simp)).trans h

theorem sizeDss_ok (A : Option Addr) (c : Nat) (l : List Ds) (w : World) (hl : DssIn All w A l) (hs : SmDss l) :
    Ret Tryz.prog 5 [.slice A l.length c] w [] fun v w' => ∃ m : Int, v = .int .i64 m ∧ 0 ≤ m ∧ (m ≤ 16777216 → m = (sizeDss l : Nat)) := by
  have hlen := hs.1
  unfold B47 at hlen
  refine fn_go (cx_ok 60 []) wideOrders Tryz.func5 rfl rfl Tryz.call5 (by simp [cx]) ?_; conv => whnf
  refine EvLoop.go (Nat × Int) (fun x => ⟨[(0, .v (.slice A l.length c)), (3, .v (.int .i64 x.2)), (4, .v (.int .i64 x.1))], [], 0⟩)
    (fun x w' => Fr [] w w' ∧ x.1 ≤ l.length ∧ 0 ≤ x.2 ∧ x.2 ≤ 4000000000000000 ∧ (x.2 ≤ 16777216 → x.2 = ((l.length + ((l.take x.1).map sizeDs).sum : Nat) : Int))) (fun x => l.length - x.1) (0, l.length) (by (refine SubS.mk ?_ ?_ <;> (repeat' (first | exact True.intro | refine And.intro ?_ ?_)) <;> (first | rfl | exact svi (by omega) | exact List.mem_cons_self | exact List.mem_cons_of_mem _ List.mem_cons_self | exact List.mem_cons_of_mem _ (List.mem_cons_of_mem _ List.mem_cons_self) | skip)))
    ⟨Fr.refl _ _, by omega, by dsimp only; omega, by dsimp only; omega, by simp⟩ ?_
  rintro ⟨i, n⟩ w1 ⟨hF, h1, h2, h3, h4⟩
  dsimp only at h1 h2 h3 h4
  have fin : ∀ w', Fr [] w w' → (n ≤ 16777216 → i = l.length) → Fr [] w w' ∧ ∃ m : Int, Value.int .i64 n = .int .i64 m ∧ 0 ≤ m ∧ (m ≤ 16777216 → m = (sizeDss l : Nat)) := fun w' hw g => ⟨hw, n, rfl, h2, fun hm => by
    rw [h4 hm, g hm, List.take_length]; rfl⟩
  conv => whnf
  refine EvSplit.lt (fun g1 => ?_) (fun g1 => ?_)
  rotate_left
  · conv => whnf
    exact fin _ hF fun _ => by omega
  conv => whnf
  refine EvIf.le (fun g2 => ?_) (fun g2 => ?_)
  rotate_left
  · conv => whnf
    exact fin _ hF fun _ => by omega
  have hi : i < l.length := by omega
  have hl1 := hl.fr0 hF
  have hsd := hs.2 l[i] (List.getElem_mem hi)
  obtain ⟨q1, q2, q3, q4⟩ := hsd
  unfold B47 at q1 q3
  conv => whnf
  refine EvDraw.go (fun w' => Fr [] w1 w') none (.take 0 true (.take 1 true (.take 2 true (.take 3 true (.take 4 true (.take 5 true (.take 6 true (.take 7 true (.take 8 true (.take 9 true (.take 10 true (.take 11 true (.take 12 true (.exec 13 (.take 14 true (.take 15 true .done)))))))))))))))) (by kernel_rfl) ?_ ?_
  · exact Fr.drew _
  conv => whnf
  refine EvIdx.row hl1.1 hi rfl rfl fun a r ha hr hrel hcells => ?_
  obtain ⟨At, ct, Aa, ca, rfl, ht, hab, _⟩ := hrel
  conv => whnf
  refine ⟨_, fun w' hw => cell_fr0 (by have := hcells 0 _ rfl; exact this) hw.1, ?_⟩
  conv => whnf
  refine EvAr.i64 (by omega) ?_; conv => whnf
  refine EvIdx.row hl1.1 hi rfl rfl fun a' r' ha' hr' hrel' hcells' => ?_
  rw [ha] at ha'; injection ha' with ha'; subst ha'
  conv => whnf
  refine ⟨_, fun w' hw => cell_fr0 (hcells 4 _ rfl) hw.1, ?_⟩
  conv => whnf
  have hFd := Fr.drew w1
  refine EvCall.ret0 (sizeTexts_ok At ct l[i].tags w1.drew (Rows.fr0 ht hFd) q2) fun v w2 hF2 hq => ?_
  obtain ⟨rfl, m, rfl, m1, m2, m3⟩ := hq
  conv => whnf
  refine ⟨hFd, ?_⟩
  conv => whnf
  refine EvAr.i64 (by omega) ?_; conv => whnf
  have hF1d := hF.trans hFd
  have hl2 := hl1.fr0 hFd
  have ht4 := sum_take_succ sizeDs l hi
  refine EvLoop.meet (Nat × Int) (fun x => ⟨[(0, .v (.slice A l.length c)), (3, .v (.int .i64 x.2)), (4, .v (.int .i64 i)), (5, .v (.int .i64 x.1))], [], 0⟩)
    (fun x w' => Fr [] w1.drew w' ∧ x.1 ≤ l[i].able.length ∧ 0 ≤ x.2 ∧ x.2 ≤ 4000000000000000 ∧ (x.2 ≤ 16777216 → x.2 = ((l.length + ((l.take i).map sizeDs).sum + (l[i].name.size + sizeTexts l[i].tags + ((l[i].able.take x.1).map fun a => 1 + sizeAb a).sum) : Nat) : Int))) (fun x => l[i].able.length - x.1) (0, n + (l[i].name.size : Int) + m)
    Int (.exit 2) (fun n' => ⟨[(0, .v (.slice A l.length c)), (3, .v (.int .i64 n')), (4, .v (.int .i64 i))], [], 0⟩) (fun n' w' => Fr [] w1.drew w' ∧ 0 ≤ n' ∧ n' ≤ 4000000000000000 ∧ (n' ≤ 16777216 → n' = ((l.length + ((l.take (i + 1)).map sizeDs).sum : Nat) : Int))) (by (refine SubS.mk ?_ ?_ <;> (repeat' (first | exact True.intro | refine And.intro ?_ ?_)) <;> (first | rfl | exact svi (by omega) | exact List.mem_cons_self | exact List.mem_cons_of_mem _ List.mem_cons_self | exact List.mem_cons_of_mem _ (List.mem_cons_of_mem _ List.mem_cons_self) | skip)))
    ⟨Fr.refl _ _, by omega, by dsimp only; omega, by dsimp only; omega, fun hm => ?_⟩ ?_ ?_
  · dsimp only at hm ⊢
    have e1 := h4 (by omega)
    have e2 := m3 (by omega)
    simp only [List.take_zero, List.map_nil, List.sum_nil]
    omega
  · rintro ⟨k, n'⟩ w3 ⟨hF3, k1, k2, k3, k4⟩
    dsimp only at k1 k2 k3 k4
    have hl3 := hl2.fr0 hF3
    have done : (n' ≤ 16777216 → k = l[i].able.length) → (n' ≤ 16777216 → n' = ((l.length + ((l.take (i + 1)).map sizeDs).sum : Nat) : Int)) := fun g hm => by
      rw [k4 hm, g hm, List.take_length, ht4]
      unfold sizeDs
      omega
    conv => whnf
    refine EvIdx.row hl3.1 hi rfl rfl fun a3 r3 ha3 hr3 hrel3 hcells3 => ?_
    obtain ⟨At3, ct3, Aa3, ca3, rfl, ht3, hab3, _⟩ := hrel3
    conv => whnf
    refine EvLd.row hcells3 (j := 5) rfl ?_
    conv => whnf
    refine EvSplit.lt (fun g3 => ?_) (fun g3 => ?_)
    rotate_left
    · conv => whnf
      exact Meet.at_ n' (by (refine SubS.mk ?_ ?_ <;> (repeat' (first | exact True.intro | refine And.intro ?_ ?_)) <;> (first | rfl | exact svi (by omega) | exact List.mem_cons_self | exact List.mem_cons_of_mem _ List.mem_cons_self | exact List.mem_cons_of_mem _ (List.mem_cons_of_mem _ List.mem_cons_self) | skip))) ⟨hF3, k2, k3, done fun _ => by omega⟩
    conv => whnf
    refine EvIf.le (fun g4 => ?_) (fun g4 => ?_)
    rotate_left
    · conv => whnf
      exact Meet.at_ n' (by (refine SubS.mk ?_ ?_ <;> (repeat' (first | exact True.intro | refine And.intro ?_ ?_)) <;> (first | rfl | exact svi (by omega) | exact List.mem_cons_self | exact List.mem_cons_of_mem _ List.mem_cons_self | exact List.mem_cons_of_mem _ (List.mem_cons_of_mem _ List.mem_cons_self) | skip))) ⟨hF3, k2, k3, done fun _ => by omega⟩
    have hk : k < l[i].able.length := by omega
    conv => whnf
    refine EvAr.i64 (by omega) ?_; conv => whnf
    refine EvIdx.row hl3.1 hi rfl rfl fun a4 r4 ha4 hr4 hrel4 hcells4 => ?_
    rw [ha3] at ha4; injection ha4 with ha4; subst ha4
    conv => whnf
    refine EvLd.row hcells3 (j := 5) rfl ?_
    conv => whnf
    refine EvIdx.row hab3.1 hk rfl rfl fun a5 r5 ha5 hr5 hrel5 hcells5 => ?_
    conv => whnf
    refine EvLdN.row hcells5 hr5 ?_
    conv => whnf
    refine EvCall.ret (sizeAb_ok r5 l[i].able[k] w3 hrel5 (q4 _ (List.getElem_mem hk))) (by simp [rsOf]) fun v w4 hF4 hq => ?_
    obtain ⟨z, rfl, z1, z2, z3⟩ := hq
    conv => whnf
    refine EvAr.i64 (by omega) ?_; conv => whnf
    have ht5 := sum_take_succ (fun a => 1 + sizeAb a) l[i].able hk
    refine EvAr.i64 (by omega) ?_; conv => whnf
    refine ⟨(k + 1, n' + 1 + z), by (refine SubS.mk ?_ ?_ <;> (repeat' (first | exact True.intro | refine And.intro ?_ ?_)) <;> (first | rfl | exact svi (by omega) | exact List.mem_cons_self | exact List.mem_cons_of_mem _ List.mem_cons_self | exact List.mem_cons_of_mem _ (List.mem_cons_of_mem _ List.mem_cons_self) | skip)), ⟨hF3.trans hF4, by dsimp only; omega, by dsimp only; omega, by dsimp only; omega, fun hm => ?_⟩, by dsimp only; omega⟩
    dsimp only at hm ⊢
    have e1 := k4 (by omega)
    have e2 := z3 (by omega)
    rw [ht5]
    omega
  · rintro n' w3 ⟨hF3, k2, k3, k4⟩
    conv => whnf
    refine EvAr.i64 (by omega) ?_; conv => whnf
    refine ⟨(i + 1, n'), by (refine SubS.mk ?_ ?_ <;> (repeat' (first | exact True.intro | refine And.intro ?_ ?_)) <;> (first | rfl | exact svi (by omega) | exact List.mem_cons_self | exact List.mem_cons_of_mem _ List.mem_cons_self | exact List.mem_cons_of_mem _ (List.mem_cons_of_mem _ List.mem_cons_self) | skip)), ⟨hF1d.trans hF3, by dsimp only; omega, k2, k3, k4⟩, by dsimp only; omega⟩

/-! ### What the pools hold -/
def intsN (x : Nd) : List Int := if x.op = 30 then [x.n] else if x.op = 14 then [0, 1, x.n] else if x.op = 15 then [0, 1] else []
def textsN (x : Nd) : List ByteArray := if x.op = 52 then [x.text] else []
def poolI (l : List Ds) : List Int := l.flatMap fun d => d.able.flatMap fun a => a.tree.flatMap intsN
def poolT (l : List Ds) : List ByteArray := l.flatMap fun d => d.name :: (d.tags ++ d.able.flatMap fun a => a.tree.flatMap textsN)
theorem flatMap_take_succ {α β : Type} (f : α → List β) (l : List α) {i : Nat} (h : i < l.length) : (l.take (i + 1)).flatMap f = (l.take i).flatMap f ++ f l[i] := by
  rw [List.take_succ_eq_append_getElem h, List.flatMap_append]; simp

def keysF {κ : Type} [DecidableEq κ] (l : List κ) : κ → Option Unit := fun k => if k ∈ l then some () else none
theorem keysF_nil {κ : Type} [DecidableEq κ] : keysF ([] : List κ) = fun _ => none := by funext k; simp [keysF]
theorem keysF_snoc {κ : Type} [DecidableEq κ] (l : List κ) (k : κ) : setF (keysF l) k (some ()) = keysF (l ++ [k]) := by
  funext j
  unfold setF keysF
  by_cases e : j = k
  · subst e; simp
  · rw [if_neg e]
    by_cases h : j ∈ l
    · simp [h]
    · simp [h, e]
def cntR (u : Unit) (v : Value) : Prop := ∃ n, v = .int .i64 n
theorem EvRd.cnt {w : World} {r t kt : Nat} {κ : Type} {ek : κ → Value} {f : κ → Option Unit} {d : TypeDesc} (ht : ((cx 0 []).ty t).cls = .map kt 3) (hk : KeyCls (cx 0 []) kt d) (K : Ky d ek) (h : HM w r ek cntR f) (k : κ) {Q : Value → Prop}
    (k1 : ∀ n, Q (.int .i64 n)) : EvRd Tryz.prog w (Instr.lookup t (.map (some r)) (ek k) false) Q := by
  obtain ⟨es, c, h1, h2, h3, _, _, h4⟩ := h.find K k
  have hku := hk.und (cx_ok 0 [])
  rcases h4 with ⟨g1, g2, _⟩ | ⟨j, e, b, g1, g2, g3, g4, n, g5⟩
  · exact ⟨.int .i64 0, by simp [Instr.lookup, run_underlying (COk.map (cx_ok 0 []) ht), MapKept.run_getObj_map h1, MapKept.run_checkKey hku (K.isKey k), MapKept.run_findKey hku g1, zero_int, Result.andThen], k1 0⟩
  · exact ⟨.int .i64 n, by simp [Instr.lookup, run_underlying (COk.map (cx_ok 0 []) ht), MapKept.run_getObj_map h1, MapKept.run_checkKey hku (K.isKey k), MapKept.run_findKey hku g1, Result.andThen, g5], k1 n⟩

/-- The two maps. -/
structure PM (lo nr sr : Nat) (li : List Int) (lt : List ByteArray) (w : World) : Prop where
  n : HM w nr (fun n : Int => Value.int .i64 n) cntR (keysF li)
  s : HM w sr (fun n : ByteArray => Value.string n) cntR (keysF lt)
  ne : nr ≠ sr
  ln : lo ≤ nr
  ls : lo ≤ sr
theorem PM.fr0 {lo nr sr : Nat} {li : List Int} {lt : List ByteArray} {w w' : World} (h : PM lo nr sr li lt w) (hf : Fr [] w w') : PM lo nr sr li lt w' := ⟨h.n.fr0 hf, h.s.fr0 hf, h.ne, h.ln, h.ls⟩
theorem PM.eq {lo nr sr : Nat} {li li' : List Int} {lt lt' : List ByteArray} {w : World} (h : PM lo nr sr li lt w) (h1 : li = li') (h2 : lt = lt') : PM lo nr sr li' lt' w := h1 ▸ h2 ▸ h


/-- What rising answers of such a map. -/
def RisI (lo : Nat) (li : List Int) (v : Value) (w' : World) : Prop := ∃ L : List Int, Own w' 2 1 v L.length (L.map fun n => .int .i64 n) ∧ (∀ b, v.ownBlock = some b → lo ≤ b) ∧ L.Pairwise (· < ·) ∧ ∀ k, k ∈ L ↔ k ∈ li
def ltB (a b : ByteArray) : Prop := a.data.toList < b.data.toList
def RisT (lo : Nat) (lt : List ByteArray) (v : Value) (w' : World) : Prop := ∃ L : List ByteArray, Own w' 9 1 v L.length (L.map fun n => .string n) ∧ (∀ b, v.ownBlock = some b → lo ≤ b) ∧ L.Pairwise ltB ∧ ∀ k, k ∈ L ↔ k ∈ lt
def RisingI : Prop := ∀ (w : World) (r : Nat) (li : List Int), HM w r (fun n : Int => Value.int .i64 n) cntR (keysF li) → li.length ≤ 1000000000000 → Ret Tryz.prog 16 [.map (some r)] w [] fun v w' => RisI w.heap.size li v w'
def RisingT : Prop := ∀ (w : World) (r : Nat) (lt : List ByteArray), HM w r (fun n : ByteArray => Value.string n) cntR (keysF lt) → lt.length ≤ 1000000000000 → Ret Tryz.prog 17 [.map (some r)] w [] fun v w' => RisT w.heap.size lt v w'

set_option maxHeartbeats 1000000 in
theorem pools_ok (hRI : RisingI) (hRT : RisingT) (A : Option Addr) (c : Nat) (l : List Ds) (w : World) (hl : DssIn All w A l) (hll : l.length ≤ 1073741824) (hlt : ∀ d ∈ l, d.tags.length ≤ 1073741824 ∧ d.able.length ≤ 1073741824 ∧ ∀ a ∈ d.able, a.tree.length ≤ 1073741824)
    (hpi : (poolI l).length ≤ 1000000000000) (hpt : (poolT l).length ≤ 1000000000000) :
    Ret Tryz.prog 6 [.slice A l.length c] w [] fun v w' => ∃ vi vt, v = .tuple #[vi, vt] ∧ RisI w.heap.size (poolI l) vi w' ∧ RisT w.heap.size (poolT l) vt w' := by
  refine fn_go (cx_ok 97 [7, 11, 13]) wideOrders Tryz.func6 rfl rfl Tryz.call6 (by simp [cx]) ?_; conv => whnf
  refine EvPrim.mkMap (ek := fun n : Int => Value.int .i64 n) (R := cntR) fun nr w1 hnr hz1 hF1 hM1 => ?_
  conv => whnf
  refine EvPrim.mkMap (ek := fun n : ByteArray => Value.string n) (R := cntR) fun sr w2 hsr hz2 hF2 hM2 => ?_
  conv => whnf
  have hF := hF1.trans hF2
  have hM : PM w.heap.size nr sr (poolI (l.take 0)) (poolT (l.take 0)) w2 := ⟨by simpa [poolI, keysF_nil] using hM1.fr0 hF2, by simpa [poolT, keysF_nil] using hM2, by omega, by omega, by omega⟩
  refine EvLoop.meetG Nat (fun i => ⟨[(4, .v (.map (some nr))), (5, .v (.map (some sr))), (16, .v (.slice A l.length c)), (17, .v (.int .i64 l.length)), (18, .v (.int .i64 i))], [], 0⟩)
    (fun i w' => i ≤ l.length ∧ Fr [] w w' ∧ PM w.heap.size nr sr (poolI (l.take i)) (poolT (l.take i)) w') (fun i => l.length - i) 0
    Unit (.exit 0) (fun _ => ⟨[(4, .v (.map (some nr))), (5, .v (.map (some sr)))], [], 0⟩) (fun _ w' => Fr [] w w' ∧ PM w.heap.size nr sr (poolI l) (poolT l) w') (by (refine SubS.mk ?_ ?_ <;> (repeat' (first | exact True.intro | refine And.intro ?_ ?_)) <;> (first | rfl | exact svi (by omega) | exact List.mem_cons_self | exact List.mem_cons_of_mem _ List.mem_cons_self | exact List.mem_cons_of_mem _ (List.mem_cons_of_mem _ List.mem_cons_self) | skip))) ⟨by omega, hF, hM⟩ ?_ ?_
  rotate_left
  · clear hM hF
    rintro _ w3 ⟨hF, hM⟩
    conv => whnf
    refine EvCall.ret0 (hRI w3 nr (poolI l) hM.n hpi) fun v w4 hF4 hq => ?_
    conv => whnf
    refine EvCall.ret0 (hRT w4 sr (poolT l) (hM.s.fr0 hF4) hpt) fun v2 w5 hF5 hq2 => ?_
    conv => whnf
    obtain ⟨L, q1, q2, q3⟩ := hq
    obtain ⟨L2, r1, r2, r3⟩ := hq2
    have := hF.size
    have := hF4.size
    exact ⟨(hF.trans hF4).trans hF5, _, _, rfl, ⟨L, q1.fr0 hF5, fun b hb => by have := q2 b hb; omega, q3⟩, ⟨L2, r1, fun b hb => by have := r2 b hb; omega, r3⟩⟩
  intro K0 hK0
  clear hM hF
  rintro i w3 ⟨hi, hF, hM⟩
  conv => whnf
  refine EvIf.lt (fun g => ?_) (fun g => ?_)
  rotate_left
  · conv => whnf
    rw [List.take_of_length_le (by omega)] at hM
    exact hK0 () _ _ (by (refine SubS.mk ?_ ?_ <;> (repeat' (first | exact True.intro | refine And.intro ?_ ?_)) <;> (first | rfl | exact svi (by omega) | exact List.mem_cons_self | exact List.mem_cons_of_mem _ List.mem_cons_self | exact List.mem_cons_of_mem _ (List.mem_cons_of_mem _ List.mem_cons_self) | skip))) ⟨hF, hM⟩
  conv => whnf
  have hil : i < l.length := by omega
  have hs3 := hF.size
  obtain ⟨dl1, dl2, dl3⟩ := hlt l[i] (List.getElem_mem hil)
  obtain ⟨a, r, ha, hblt, hr, hrel, hcells⟩ := RowsOf.get hl.1 hil
  obtain ⟨At, ct, Aa, ca, rfl, ht, hab, _⟩ := hrel
  refine EvIdx.nat ha hil ?_
  conv => whnf
  refine EvLdN.row (r := l[i].cells At ct Aa ca) (fun j v hj => cell_fr0 (hcells j v hj) hF) rfl ?_
  conv => whnf
  refine EvNew.blk fun r7 wA hrA hzA hFA hBA => ?_
  conv => whnf
  refine EvDo.storeBlk (vs := (l[i].cells At ct Aa ca)) (cx_ok 0 []) rfl hBA rfl rfl (by simp [Ds.cells, Ab.cells, Nd.cells, Value.oneCell']) (by simp [rsOf]) fun wB hFB hB7 => ?_
  have hF7 : Fr [] _ wB := hFA.trans' hFB (by simp; omega)
  try replace hB7 := hB7.fr0 hF7
  try replace hB11 := hB11.fr0 hF7
  replace hM := hM.fr0 hF7
  replace hF := hF.trans hF7
  clear hFA hBA hFB
  conv => whnf
  refine EvLd.blk0 hB7 rfl ?_
  conv => whnf
  refine EvRd.cnt rfl (KeyCls.str rfl) Ky.str hM.s (l[i].name) fun n0 => ?_
  conv => whnf
  refine ⟨?_⟩
  conv => whnf
  refine EvDo.upd (b := ()) (cx_ok 0 []) rfl (KeyCls.str rfl) Ky.str hM.s (l[i].name) ⟨_, rfl⟩ (by simp [rsOf]) fun wN hFN hMN => ?_
  rw [keysF_snoc] at hMN
  have hM' : PM _ nr sr _ _ wN := ⟨hM.n.fr hFN (by simpa using hM.ne), hMN, hM.ne, hM.ln, hM.ls⟩
  try replace hB7 := hB7.fr hFN (by simpa using (hM.s.ne_cells hB7).symm)
  try replace hB11 := hB11.fr hFN (by simpa using (hM.s.ne_cells hB11).symm)
  try replace hB13 := hB13.fr hFN (by simpa using (hM.s.ne_cells hB13).symm)
  replace hF := hF.trans' hFN (by have := hM.ls; simp; omega)
  clear hM hFN hMN
  have hM := hM'
  clear hM'
  conv => whnf
  refine EvLd.blk hB7 rfl ?_
  conv => whnf
  refine EvLoop.meetG Nat (fun k => ⟨[(4, .v (.map (some nr))), (5, .v (.map (some sr))), (7, .v (kp r7)), (16, .v (.slice A l.length c)), (17, .v (.int .i64 l.length)), (18, .v (.int .i64 i)), (28, .v (.slice At l[i].tags.length ct)), (29, .v (.int .i64 l[i].tags.length)), (30, .v (.int .i64 k))], [], 0⟩)
    (fun k w' => k ≤ l[i].tags.length ∧ Fr [] w w' ∧ PM w.heap.size nr sr (poolI (l.take i)) (poolT (l.take i) ++ (l[i].name :: l[i].tags.take k)) w' ∧ HB w' r7 33 (l[i].cells At ct Aa ca)) (fun k => l[i].tags.length - k) 0
    Unit (.exit 2) (fun _ => ⟨[(4, .v (.map (some nr))), (5, .v (.map (some sr))), (7, .v (kp r7)), (16, .v (.slice A l.length c)), (17, .v (.int .i64 l.length)), (18, .v (.int .i64 i))], [], 0⟩)
    (fun _ w' => Fr [] w w' ∧ PM w.heap.size nr sr (poolI (l.take i)) (poolT (l.take i) ++ (l[i].name :: l[i].tags)) w' ∧ HB w' r7 33 (l[i].cells At ct Aa ca))
    (by (refine SubS.mk ?_ ?_ <;> (repeat' (first | exact True.intro | refine And.intro ?_ ?_)) <;> (first | rfl | exact svi (by omega) | exact List.mem_cons_self | exact List.mem_cons_of_mem _ List.mem_cons_self | exact List.mem_cons_of_mem _ (List.mem_cons_of_mem _ List.mem_cons_self) | skip))) ⟨by omega, hF, by simpa using hM, hB7⟩ ?_ ?_
  · clear hM hF hB7
    intro K1 hK1
    rintro k w4 ⟨hk, hF, hM, hB7⟩
    conv => whnf
    refine EvIf.lt (fun g2 => ?_) (fun g2 => ?_)
    rotate_left
    · conv => whnf
      have hke : l[i].tags.take k = l[i].tags := List.take_of_length_le (by omega)
      rw [hke] at hM
      exact hK1 () _ _ (by (refine SubS.mk ?_ ?_ <;> (repeat' (first | exact True.intro | refine And.intro ?_ ?_)) <;> (first | rfl | exact svi (by omega) | exact List.mem_cons_self | exact List.mem_cons_of_mem _ List.mem_cons_self | exact List.mem_cons_of_mem _ (List.mem_cons_of_mem _ List.mem_cons_self) | skip))) ⟨hF, hM, hB7⟩
    conv => whnf
    have hkl : k < l[i].tags.length := by omega
    have ht4 := Rows.fr0 ht hF
    refine TextsAt.idx ht4 hkl rfl rfl fun a2 ha2 => ?_
    conv => whnf
    refine TextsAt.ld ht4 ha2 hkl ?_
    conv => whnf
    refine EvRd.cnt rfl (KeyCls.str rfl) Ky.str hM.s ((l[i].tags[k])) fun n0 => ?_
    conv => whnf
    refine ⟨?_⟩
    conv => whnf
    refine EvDo.upd (b := ()) (cx_ok 0 []) rfl (KeyCls.str rfl) Ky.str hM.s ((l[i].tags[k])) ⟨_, rfl⟩ (by simp [rsOf]) fun wN hFN hMN => ?_
    rw [keysF_snoc] at hMN
    have hM' : PM _ nr sr _ _ wN := ⟨hM.n.fr hFN (by simpa using hM.ne), hMN, hM.ne, hM.ln, hM.ls⟩
    try replace hB7 := hB7.fr hFN (by simpa using (hM.s.ne_cells hB7).symm)
    try replace hB11 := hB11.fr hFN (by simpa using (hM.s.ne_cells hB11).symm)
    try replace hB13 := hB13.fr hFN (by simpa using (hM.s.ne_cells hB13).symm)
    replace hF := hF.trans' hFN (by have := hM.ls; simp; omega)
    clear hM hFN hMN
    have hM := hM'
    clear hM'
    conv => whnf
    refine EvAr.i64 (by omega) ?_; conv => whnf
    refine ⟨k + 1, by (refine SubS.mk ?_ ?_ <;> (repeat' (first | exact True.intro | refine And.intro ?_ ?_)) <;> (first | rfl | exact svi (by omega) | exact List.mem_cons_self | exact List.mem_cons_of_mem _ List.mem_cons_self | exact List.mem_cons_of_mem _ (List.mem_cons_of_mem _ List.mem_cons_self) | skip)), ⟨hkl, hF, hM.eq rfl (by rw [List.take_succ_eq_append_getElem hkl]; simp), hB7⟩, by omega⟩
  clear hM hF hB7
  rintro _ w4 ⟨hF, hM, hB7⟩
  conv => whnf
  refine EvLd.blk hB7 rfl ?_
  conv => whnf
  refine EvLoop.meetG Nat (fun k => ⟨[(4, .v (.map (some nr))), (5, .v (.map (some sr))), (16, .v (.slice A l.length c)), (17, .v (.int .i64 l.length)), (18, .v (.int .i64 i)), (40, .v (.slice Aa l[i].able.length ca)), (41, .v (.int .i64 l[i].able.length)), (42, .v (.int .i64 k))], [], 0⟩)
    (fun k w' => k ≤ l[i].able.length ∧ Fr [] w w' ∧ PM w.heap.size nr sr (poolI (l.take i) ++ (l[i].able.take k).flatMap fun a => a.tree.flatMap intsN) (poolT (l.take i) ++ (l[i].name :: (l[i].tags ++ (l[i].able.take k).flatMap fun a => a.tree.flatMap textsN))) w') (fun k => l[i].able.length - k) 0
    Unit (.exit 4) (fun _ => ⟨[(4, .v (.map (some nr))), (5, .v (.map (some sr))), (16, .v (.slice A l.length c)), (17, .v (.int .i64 l.length)), (18, .v (.int .i64 i))], [], 0⟩)
    (fun _ w' => Fr [] w w' ∧ PM w.heap.size nr sr (poolI (l.take (i + 1))) (poolT (l.take (i + 1))) w')
    (by (refine SubS.mk ?_ ?_ <;> (repeat' (first | exact True.intro | refine And.intro ?_ ?_)) <;> (first | rfl | exact svi (by omega) | exact List.mem_cons_self | exact List.mem_cons_of_mem _ List.mem_cons_self | exact List.mem_cons_of_mem _ (List.mem_cons_of_mem _ List.mem_cons_self) | skip))) ⟨by omega, hF, by simpa using hM⟩ ?_ ?_
  rotate_left
  · clear hM hF hB7
    rintro _ w5 ⟨hF, hM⟩
    conv => whnf
    refine EvAr.i64 (by omega) ?_; conv => whnf
    exact ⟨i + 1, by (refine SubS.mk ?_ ?_ <;> (repeat' (first | exact True.intro | refine And.intro ?_ ?_)) <;> (first | rfl | exact svi (by omega) | exact List.mem_cons_self | exact List.mem_cons_of_mem _ List.mem_cons_self | exact List.mem_cons_of_mem _ (List.mem_cons_of_mem _ List.mem_cons_self) | skip)), ⟨hil, hF, hM⟩, by omega⟩
  clear hM hF hB7
  intro K2 hK2
  rintro k w5 ⟨hk, hF, hM⟩
  conv => whnf
  refine EvIf.lt (fun g3 => ?_) (fun g3 => ?_)
  rotate_left
  · conv => whnf
    have hke : l[i].able.take k = l[i].able := List.take_of_length_le (by omega)
    rw [hke] at hM
    refine hK2 () _ _ (by (refine SubS.mk ?_ ?_ <;> (repeat' (first | exact True.intro | refine And.intro ?_ ?_)) <;> (first | rfl | exact svi (by omega) | exact List.mem_cons_self | exact List.mem_cons_of_mem _ List.mem_cons_self | exact List.mem_cons_of_mem _ (List.mem_cons_of_mem _ List.mem_cons_self) | skip))) ⟨hF, hM.eq ?_ ?_⟩
    · unfold poolI; rw [flatMap_take_succ _ l hil]
    · unfold poolT; rw [flatMap_take_succ _ l hil]
  conv => whnf
  have hkl : k < l[i].able.length := by omega
  have htr := dl3 _ (List.getElem_mem hkl)
  obtain ⟨a3, r3, ha3, hblt3, hr3, hrel3, hcells3⟩ := RowsOf.get hab.1 hkl
  obtain ⟨As, cs, Av, cv, rfl, _, htree, _, _⟩ := hrel3
  refine EvIdx.nat ha3 hkl ?_
  conv => whnf
  refine EvLdN.row (r := l[i].able[k].cells As cs Av cv) (fun j v hj => cell_fr0 (hcells3 j v hj) hF) rfl ?_
  conv => whnf
  refine EvNew.blk fun r11 wA hrA hzA hFA hBA => ?_
  conv => whnf
  refine EvDo.storeBlk (vs := (l[i].able[k].cells As cs Av cv)) (cx_ok 0 []) rfl hBA rfl rfl (by simp [Ds.cells, Ab.cells, Nd.cells, Value.oneCell']) (by simp [rsOf]) fun wB hFB hB11 => ?_
  have hF11 : Fr [] _ wB := hFA.trans' hFB (by simp; omega)
  try replace hB7 := hB7.fr0 hF11
  try replace hB11 := hB11.fr0 hF11
  replace hM := hM.fr0 hF11
  replace hF := hF.trans hF11
  clear hFA hBA hFB
  conv => whnf
  refine EvLd.blk hB11 rfl ?_
  conv => whnf
  obtain ⟨tr, htrd⟩ : ∃ tr, tr = l[i].able[k].tree := ⟨_, rfl⟩
  rw [← htrd] at htr htree ⊢
  refine EvLoop.meetG Nat (fun j => ⟨[(4, .v (.map (some nr))), (5, .v (.map (some sr))), (16, .v (.slice A l.length c)), (17, .v (.int .i64 l.length)), (18, .v (.int .i64 i)), (40, .v (.slice Aa l[i].able.length ca)), (41, .v (.int .i64 l[i].able.length)), (42, .v (.int .i64 k)), (47, .v (.slice Av tr.length cv)), (48, .v (.int .i64 tr.length)), (49, .v (.int .i64 j))], [], 0⟩)
    (fun j w' => j ≤ tr.length ∧ Fr [] w w' ∧ PM w.heap.size nr sr ((poolI (l.take i) ++ (l[i].able.take k).flatMap fun a => a.tree.flatMap intsN) ++ (tr.take j).flatMap intsN) ((poolT (l.take i) ++ (l[i].name :: (l[i].tags ++ (l[i].able.take k).flatMap fun a => a.tree.flatMap textsN))) ++ (tr.take j).flatMap textsN) w') (fun j => tr.length - j) 0
    Unit (.exit 6) (fun _ => ⟨[(4, .v (.map (some nr))), (5, .v (.map (some sr))), (16, .v (.slice A l.length c)), (17, .v (.int .i64 l.length)), (18, .v (.int .i64 i)), (40, .v (.slice Aa l[i].able.length ca)), (41, .v (.int .i64 l[i].able.length)), (42, .v (.int .i64 k))], [], 0⟩)
    (fun _ w' => Fr [] w w' ∧ PM w.heap.size nr sr ((poolI (l.take i) ++ (l[i].able.take k).flatMap fun a => a.tree.flatMap intsN) ++ tr.flatMap intsN) ((poolT (l.take i) ++ (l[i].name :: (l[i].tags ++ (l[i].able.take k).flatMap fun a => a.tree.flatMap textsN))) ++ tr.flatMap textsN) w')
    (by (refine SubS.mk ?_ ?_ <;> (repeat' (first | exact True.intro | refine And.intro ?_ ?_)) <;> (first | rfl | exact svi (by omega) | exact List.mem_cons_self | exact List.mem_cons_of_mem _ List.mem_cons_self | exact List.mem_cons_of_mem _ (List.mem_cons_of_mem _ List.mem_cons_self) | skip))) ⟨by omega, hF, by simpa using hM⟩ ?_ ?_
  rotate_left
  · clear hM hF hB11
    rintro _ w6 ⟨hF, hM⟩
    conv => whnf
    refine EvAr.i64 (by omega) ?_; conv => whnf
    refine ⟨k + 1, by (refine SubS.mk ?_ ?_ <;> (repeat' (first | exact True.intro | refine And.intro ?_ ?_)) <;> (first | rfl | exact svi (by omega) | exact List.mem_cons_self | exact List.mem_cons_of_mem _ List.mem_cons_self | exact List.mem_cons_of_mem _ (List.mem_cons_of_mem _ List.mem_cons_self) | skip)), ⟨hkl, hF, hM.eq ?_ ?_⟩, by omega⟩
    · rw [flatMap_take_succ _ _ hkl, htrd]; simp
    · rw [flatMap_take_succ _ _ hkl, htrd]; simp
  clear hM hF hB11
  intro K3 hK3
  rintro j w6 ⟨hj, hF, hM⟩
  conv => whnf
  refine EvIf.lt (fun g4 => ?_) (fun g4 => ?_)
  rotate_left
  · conv => whnf
    have hke : tr.take j = tr := List.take_of_length_le (by omega)
    rw [hke] at hM
    exact hK3 () _ _ (by (refine SubS.mk ?_ ?_ <;> (repeat' (first | exact True.intro | refine And.intro ?_ ?_)) <;> (first | rfl | exact svi (by omega) | exact List.mem_cons_self | exact List.mem_cons_of_mem _ List.mem_cons_self | exact List.mem_cons_of_mem _ (List.mem_cons_of_mem _ List.mem_cons_self) | skip))) ⟨hF, hM⟩
  conv => whnf
  have hjl : j < tr.length := by omega
  have htree6 := Rows.fr0 htree hF
  refine EvIdx.nd htree6 hjl rfl fun a4 ha4 => ?_
  conv => whnf
  refine EvLdN.nd htree6 ha4 hjl rfl ?_
  conv => whnf
  generalize hx : tr[j] = x at *
  have hsI : (tr.take (j + 1)).flatMap intsN = (tr.take j).flatMap intsN ++ intsN x := by rw [flatMap_take_succ _ _ hjl, hx]
  have hsT : (tr.take (j + 1)).flatMap textsN = (tr.take j).flatMap textsN ++ textsN x := by rw [flatMap_take_succ _ _ hjl, hx]
  refine EvNew.blk fun r13 wA hrA hzA hFA hBA => ?_
  conv => whnf
  refine EvDo.storeBlk (vs := x.cells) (cx_ok 0 []) rfl hBA rfl rfl (by simp [Ds.cells, Ab.cells, Nd.cells, Value.oneCell']) (by simp [rsOf]) fun wB hFB hB13 => ?_
  have hF13 : Fr [] _ wB := hFA.trans' hFB (by simp; omega)
  try replace hB7 := hB7.fr0 hF13
  try replace hB11 := hB11.fr0 hF13
  replace hM := hM.fr0 hF13
  replace hF := hF.trans hF13
  clear hFA hBA hFB
  conv => whnf
  refine EvLd.blk0 hB13 rfl ?_
  conv => whnf
  refine EvIf.eq (fun c1 => ?_) (fun c1 => ?_)
  · conv => whnf
    refine EvLd.blk hB13 rfl ?_
    conv => whnf
    refine EvRd.cnt rfl (KeyCls.int rfl) (Ky.int .i64) hM.n (x.n) fun n0 => ?_
    conv => whnf
    refine ⟨?_⟩
    conv => whnf
    refine EvDo.upd (b := ()) (cx_ok 0 []) rfl (KeyCls.int rfl) (Ky.int .i64) hM.n (x.n) ⟨_, rfl⟩ (by simp [rsOf]) fun wN hFN hMN => ?_
    rw [keysF_snoc] at hMN
    have hM' : PM _ nr sr _ _ wN := ⟨hMN, hM.s.fr hFN (by simpa using hM.ne.symm), hM.ne, hM.ln, hM.ls⟩
    try replace hB7 := hB7.fr hFN (by simpa using (hM.n.ne_cells hB7).symm)
    try replace hB11 := hB11.fr hFN (by simpa using (hM.n.ne_cells hB11).symm)
    try replace hB13 := hB13.fr hFN (by simpa using (hM.n.ne_cells hB13).symm)
    replace hF := hF.trans' hFN (by have := hM.ln; simp; omega)
    clear hM hFN hMN
    have hM := hM'
    clear hM'
    conv => whnf
    refine EvAr.i64 (by omega) ?_; conv => whnf
    exact ⟨j + 1, by (refine SubS.mk ?_ ?_ <;> (repeat' (first | exact True.intro | refine And.intro ?_ ?_)) <;> (first | rfl | exact svi (by omega) | exact List.mem_cons_self | exact List.mem_cons_of_mem _ List.mem_cons_self | exact List.mem_cons_of_mem _ (List.mem_cons_of_mem _ List.mem_cons_self) | skip)), ⟨hjl, hF, hM.eq (by rw [hsI]; simp [intsN, c1]) (by rw [hsT]; simp [textsN, c1])⟩, by omega⟩
  conv => whnf
  refine EvIf.eq (fun c2 => ?_) (fun c2 => ?_)
  · conv => whnf
    refine EvRd.cnt rfl (KeyCls.int rfl) (Ky.int .i64) hM.n (0) fun n0 => ?_
    conv => whnf
    refine ⟨?_⟩
    conv => whnf
    refine EvDo.upd (b := ()) (cx_ok 0 []) rfl (KeyCls.int rfl) (Ky.int .i64) hM.n (0) ⟨_, rfl⟩ (by simp [rsOf]) fun wN hFN hMN => ?_
    rw [keysF_snoc] at hMN
    have hM' : PM _ nr sr _ _ wN := ⟨hMN, hM.s.fr hFN (by simpa using hM.ne.symm), hM.ne, hM.ln, hM.ls⟩
    try replace hB7 := hB7.fr hFN (by simpa using (hM.n.ne_cells hB7).symm)
    try replace hB11 := hB11.fr hFN (by simpa using (hM.n.ne_cells hB11).symm)
    try replace hB13 := hB13.fr hFN (by simpa using (hM.n.ne_cells hB13).symm)
    replace hF := hF.trans' hFN (by have := hM.ln; simp; omega)
    clear hM hFN hMN
    have hM := hM'
    clear hM'
    conv => whnf
    refine EvRd.cnt rfl (KeyCls.int rfl) (Ky.int .i64) hM.n (1) fun n0 => ?_
    conv => whnf
    refine ⟨?_⟩
    conv => whnf
    refine EvDo.upd (b := ()) (cx_ok 0 []) rfl (KeyCls.int rfl) (Ky.int .i64) hM.n (1) ⟨_, rfl⟩ (by simp [rsOf]) fun wN hFN hMN => ?_
    rw [keysF_snoc] at hMN
    have hM' : PM _ nr sr _ _ wN := ⟨hMN, hM.s.fr hFN (by simpa using hM.ne.symm), hM.ne, hM.ln, hM.ls⟩
    try replace hB7 := hB7.fr hFN (by simpa using (hM.n.ne_cells hB7).symm)
    try replace hB11 := hB11.fr hFN (by simpa using (hM.n.ne_cells hB11).symm)
    try replace hB13 := hB13.fr hFN (by simpa using (hM.n.ne_cells hB13).symm)
    replace hF := hF.trans' hFN (by have := hM.ln; simp; omega)
    clear hM hFN hMN
    have hM := hM'
    clear hM'
    conv => whnf
    refine EvLd.blk hB13 rfl ?_
    conv => whnf
    refine EvRd.cnt rfl (KeyCls.int rfl) (Ky.int .i64) hM.n (x.n) fun n0 => ?_
    conv => whnf
    refine ⟨?_⟩
    conv => whnf
    refine EvDo.upd (b := ()) (cx_ok 0 []) rfl (KeyCls.int rfl) (Ky.int .i64) hM.n (x.n) ⟨_, rfl⟩ (by simp [rsOf]) fun wN hFN hMN => ?_
    rw [keysF_snoc] at hMN
    have hM' : PM _ nr sr _ _ wN := ⟨hMN, hM.s.fr hFN (by simpa using hM.ne.symm), hM.ne, hM.ln, hM.ls⟩
    try replace hB7 := hB7.fr hFN (by simpa using (hM.n.ne_cells hB7).symm)
    try replace hB11 := hB11.fr hFN (by simpa using (hM.n.ne_cells hB11).symm)
    try replace hB13 := hB13.fr hFN (by simpa using (hM.n.ne_cells hB13).symm)
    replace hF := hF.trans' hFN (by have := hM.ln; simp; omega)
    clear hM hFN hMN
    have hM := hM'
    clear hM'
    conv => whnf
    refine EvAr.i64 (by omega) ?_; conv => whnf
    exact ⟨j + 1, by (refine SubS.mk ?_ ?_ <;> (repeat' (first | exact True.intro | refine And.intro ?_ ?_)) <;> (first | rfl | exact svi (by omega) | exact List.mem_cons_self | exact List.mem_cons_of_mem _ List.mem_cons_self | exact List.mem_cons_of_mem _ (List.mem_cons_of_mem _ List.mem_cons_self) | skip)), ⟨hjl, hF, hM.eq (by rw [hsI]; simp [intsN, c2]) (by rw [hsT]; simp [textsN, c2])⟩, by omega⟩
  conv => whnf
  refine EvIf.eq (fun c3 => ?_) (fun c3 => ?_)
  · conv => whnf
    refine EvRd.cnt rfl (KeyCls.int rfl) (Ky.int .i64) hM.n (0) fun n0 => ?_
    conv => whnf
    refine ⟨?_⟩
    conv => whnf
    refine EvDo.upd (b := ()) (cx_ok 0 []) rfl (KeyCls.int rfl) (Ky.int .i64) hM.n (0) ⟨_, rfl⟩ (by simp [rsOf]) fun wN hFN hMN => ?_
    rw [keysF_snoc] at hMN
    have hM' : PM _ nr sr _ _ wN := ⟨hMN, hM.s.fr hFN (by simpa using hM.ne.symm), hM.ne, hM.ln, hM.ls⟩
    try replace hB7 := hB7.fr hFN (by simpa using (hM.n.ne_cells hB7).symm)
    try replace hB11 := hB11.fr hFN (by simpa using (hM.n.ne_cells hB11).symm)
    try replace hB13 := hB13.fr hFN (by simpa using (hM.n.ne_cells hB13).symm)
    replace hF := hF.trans' hFN (by have := hM.ln; simp; omega)
    clear hM hFN hMN
    have hM := hM'
    clear hM'
    conv => whnf
    refine EvRd.cnt rfl (KeyCls.int rfl) (Ky.int .i64) hM.n (1) fun n0 => ?_
    conv => whnf
    refine ⟨?_⟩
    conv => whnf
    refine EvDo.upd (b := ()) (cx_ok 0 []) rfl (KeyCls.int rfl) (Ky.int .i64) hM.n (1) ⟨_, rfl⟩ (by simp [rsOf]) fun wN hFN hMN => ?_
    rw [keysF_snoc] at hMN
    have hM' : PM _ nr sr _ _ wN := ⟨hMN, hM.s.fr hFN (by simpa using hM.ne.symm), hM.ne, hM.ln, hM.ls⟩
    try replace hB7 := hB7.fr hFN (by simpa using (hM.n.ne_cells hB7).symm)
    try replace hB11 := hB11.fr hFN (by simpa using (hM.n.ne_cells hB11).symm)
    try replace hB13 := hB13.fr hFN (by simpa using (hM.n.ne_cells hB13).symm)
    replace hF := hF.trans' hFN (by have := hM.ln; simp; omega)
    clear hM hFN hMN
    have hM := hM'
    clear hM'
    conv => whnf
    refine EvAr.i64 (by omega) ?_; conv => whnf
    exact ⟨j + 1, by (refine SubS.mk ?_ ?_ <;> (repeat' (first | exact True.intro | refine And.intro ?_ ?_)) <;> (first | rfl | exact svi (by omega) | exact List.mem_cons_self | exact List.mem_cons_of_mem _ List.mem_cons_self | exact List.mem_cons_of_mem _ (List.mem_cons_of_mem _ List.mem_cons_self) | skip)), ⟨hjl, hF, hM.eq (by rw [hsI]; simp [intsN, c3]) (by rw [hsT]; simp [textsN, c3])⟩, by omega⟩
  conv => whnf
  refine EvIf.eq (fun c4 => ?_) (fun c4 => ?_)
  · conv => whnf
    refine EvLd.blk hB13 rfl ?_
    conv => whnf
    refine EvRd.cnt rfl (KeyCls.str rfl) Ky.str hM.s (x.text) fun n0 => ?_
    conv => whnf
    refine ⟨?_⟩
    conv => whnf
    refine EvDo.upd (b := ()) (cx_ok 0 []) rfl (KeyCls.str rfl) Ky.str hM.s (x.text) ⟨_, rfl⟩ (by simp [rsOf]) fun wN hFN hMN => ?_
    rw [keysF_snoc] at hMN
    have hM' : PM _ nr sr _ _ wN := ⟨hM.n.fr hFN (by simpa using hM.ne), hMN, hM.ne, hM.ln, hM.ls⟩
    try replace hB7 := hB7.fr hFN (by simpa using (hM.s.ne_cells hB7).symm)
    try replace hB11 := hB11.fr hFN (by simpa using (hM.s.ne_cells hB11).symm)
    try replace hB13 := hB13.fr hFN (by simpa using (hM.s.ne_cells hB13).symm)
    replace hF := hF.trans' hFN (by have := hM.ls; simp; omega)
    clear hM hFN hMN
    have hM := hM'
    clear hM'
    conv => whnf
    refine EvAr.i64 (by omega) ?_; conv => whnf
    exact ⟨j + 1, by (refine SubS.mk ?_ ?_ <;> (repeat' (first | exact True.intro | refine And.intro ?_ ?_)) <;> (first | rfl | exact svi (by omega) | exact List.mem_cons_self | exact List.mem_cons_of_mem _ List.mem_cons_self | exact List.mem_cons_of_mem _ (List.mem_cons_of_mem _ List.mem_cons_self) | skip)), ⟨hjl, hF, hM.eq (by rw [hsI]; simp [intsN, c4]) (by rw [hsT]; simp [textsN, c4])⟩, by omega⟩
  · conv => whnf
    refine EvAr.i64 (by omega) ?_; conv => whnf
    exact ⟨j + 1, by (refine SubS.mk ?_ ?_ <;> (repeat' (first | exact True.intro | refine And.intro ?_ ?_)) <;> (first | rfl | exact svi (by omega) | exact List.mem_cons_self | exact List.mem_cons_of_mem _ List.mem_cons_self | exact List.mem_cons_of_mem _ (List.mem_cons_of_mem _ List.mem_cons_self) | skip)), ⟨hjl, hF, hM.eq (by rw [hsI]; simp [intsN, c1, c2, c3]) (by rw [hsT]; simp [textsN, c4])⟩, by omega⟩
end Go.Proofs.Tab
