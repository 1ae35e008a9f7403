/- Package emit: the walks of what writes the kinds of nodes. No condition. -/
import Derived.Test.YtmjalmocaiokhaaGreatEmitM
import Derived.Test.YtmjalmocaiokhaaGreatCheckM
set_option linter.unusedVariables false
set_option linter.unusedSimpArgs false
set_option maxRecDepth 100000
namespace Go.Proofs.Tab
open Go Go.Fw

/-- The contract of a node at a place. -/
def NodeOk (E : MEnv) (i : Nat) (x : Nd) (ks : Fo) : Prop :=
  ∀ {s : Mk} {w : World}, MK E s w → s.b.length + 25 * (1 + ks.size) ≤ 1000000 → s.later.length + 2 * (1 + ks.size) ≤ 500000 →
    RetQ Tryz.prog 39 [kp E.kb, .int .i64 i] w fun v w' => v = .tuple #[] ∧ TM E w w' ∧ MK E (emStep E.P x ks.heads (ems E.P ks) s) w'

/-- The kids' places, in memory. -/
structure KAt (E : MEnv) (i : Nat) (lA : Option Addr) (lc : Nat) (w : World) : Prop where
  own : Own w 3 1 (.slice lA (kidsL E.t i).length lc) (kidsL E.t i).length ((kidsL E.t i).map fun n => .int .i64 n)
  ne : ∀ k, (Value.slice lA (kidsL E.t i).length lc).ownBlock = some k → k ∉ [E.kb]
theorem KAt.tf {E : MEnv} {i : Nat} {lA : Option Addr} {lc : Nat} {w w' : World} (h : KAt E i lA lc w) (hf : TM E w w') : KAt E i lA lc w' := ⟨h.own.tf hf h.ne (.inr (by decide)), h.ne⟩
theorem KAt.fr0 {E : MEnv} {i : Nat} {lA : Option Addr} {lc : Nat} {w w' : World} (h : KAt E i lA lc w) (hf : Fr [] w w') : KAt E i lA lc w' := ⟨h.own.fr0 hf, h.ne⟩
theorem KAt.ints {E : MEnv} {i : Nat} {lA : Option Addr} {lc : Nat} {w : World} (h : KAt E i lA lc w) : IntsAt w lA (kidsL E.t i) :=
  Own.rows h.own (flat_one _ _).symm (by simp) (by simp)

/-- What is known of a node's kids. -/
structure Kid (E : MEnv) (i : Nat) (ks : Fo) (j p : Nat) (y : Nd) (kk : Fo) : Prop where
  pl : (kidsL E.t i)[j]? = some (p : Int)
  hd : ks.heads[j]? = some y
  em : nthM (ems E.P ks) j = emStep E.P y kk.heads (ems E.P kk)
  lt : p < E.t.length
  get : E.t[p]? = some y
  gr : Gr (nthM (ems E.P ks) j) (1 + kk.size)
  sz : (szs ks)[j]? = some (1 + kk.size)
  at_ : (ks.at_ (i + 1))[j]? = some (p, y, kk)
theorem kid_of {E : MEnv} {i : Nat} {x : Nd} {ks r : Fo} (hfo : FoAt E.t i (.cons x ks r)) {j : Nat} (hj : j < ks.len) : ∃ p y kk, Kid E i ks j p y kk ∧ (wfs ks)[j]? = some (wfStep y kk.heads (wfs kk)) := by
  obtain ⟨p, y, kk, r', h1, h2, h3, _, h5, _⟩ := fo_tree [] (fun _ => none) hfo.2.2.1 hj
  have e1 : ∀ (f : Fo) (i' j' : Nat), (f.at_ i')[j']? = some (p, y, kk) → (ems E.P f)[j']? = some (emStep E.P y kk.heads (ems E.P kk)) ∧ (wfs f)[j']? = some (wfStep y kk.heads (wfs kk)) ∧ (szs f)[j']? = some (1 + kk.size) := by
    intro f
    induction f with
    | nil => intro i' j' h; simp [Fo.at_] at h
    | cons a b c _ ih =>
      intro i' j' h
      cases j' with
      | zero => simp [Fo.at_] at h; obtain ⟨rfl, rfl, rfl⟩ := h; exact ⟨rfl, rfl, rfl⟩
      | succ j' => simpa [ems, wfs, szs] using ih _ j' (by simpa [Fo.at_] using h)
  obtain ⟨e1, e2, e3⟩ := e1 ks (i + 1) j h1
  refine ⟨p, y, kk, ⟨by rw [kidsL_fo hfo, List.getElem?_map, h2]; rfl, h3, by unfold nthM; rw [e1]; rfl, h5.lt, h5.1, ?_, e3, h1⟩, e2⟩
  have := nth_gr (ems_gr E.P ks) j
  rw [e3] at this
  exact this

theorem kids_len {E : MEnv} {i : Nat} {x : Nd} {ks r : Fo} (hfo : FoAt E.t i (.cons x ks r)) : (kidsL E.t i).length = ks.len := by rw [kidsL_fo hfo, List.length_map, Fo.pos_length]
def KidsOk (E : MEnv) (i : Nat) (ks : Fo) : Prop := ∀ (j p : Nat) y kk, (ks.at_ (i + 1))[j]? = some (p, y, kk) → wfStep y kk.heads (wfs kk) → NodeOk E p y kk
/-- The contract of what writes a kind of node. -/
def HOk (g : Nat) (E : MEnv) (i : Nat) (x : Nd) (ks : Fo) (cap : List Value) (f : Em) : Prop :=
  ∀ {s : Mk} {w : World} {lA : Option Addr} {lc : Nat}, MK E s w → KAt E i lA lc w → s.b.length + 25 * (1 + ks.size) ≤ 1000000 → s.later.length + 2 * (1 + ks.size) ≤ 500000 →
    RetQ Tryz.prog g ([kp E.kb, .agg x.cells.toArray, .slice lA (kidsL E.t i).length lc] ++ cap) w fun v w' => v = .tuple #[] ∧ TM E w w' ∧ MK E (f s) w'

theorem OpenAt.at_ {E : MEnv} {v : Value} {a : Nat} {w : World} (h : OpenAt E v a w) : ∃ rm ra, v = .func (.func 69) #[] #[pt rm, pt ra] ∧ OpenAt E (.func (.func 69) #[] #[pt rm, pt ra]) a w := by
  obtain ⟨rm, ra, rfl, h1, h2⟩ := h; exact ⟨rm, ra, rfl, rm, ra, rfl, h1, h2⟩
theorem OpenAt.here {E : MEnv} {rm ra a : Nat} {w : World} (ho : OpenAt E (.func (.func 69) #[] #[pt rm, pt ra]) a w) {s : Mk} (h : MK E s w) (hb : s.later.length + 1 ≤ 1000000) :
    RetQ Tryz.prog 69 [pt rm, pt ra] w fun v w' => v = .tuple #[] ∧ TM E w w' ∧ MK E (hereM a s) w' := by
  obtain ⟨rm', ra', e, h1, h2⟩ := ho
  simp [pt] at e
  obtain ⟨rfl, rfl⟩ := e
  exact here_ok h h1 h2 hb

theorem OpenAt.fr0 {E : MEnv} {v : Value} {a : Nat} {w w' : World} (h : OpenAt E v a w) (hf : Fr [] w w') : OpenAt E v a w' := by
  obtain ⟨rm, ra, h1, h2, h3⟩ := h
  exact ⟨rm, ra, h1, h2.fr0 hf, h3.fr0 hf⟩
theorem kids_two {ks : Fo} {a b : Nat} (ha : (szs ks)[0]? = some a) (hb : (szs ks)[1]? = some b) : a + b ≤ ks.size := by
  have := three_le (szs ks)
  rw [szs_sum, ha, hb] at this
  simp only [Option.getD_some] at this
  omega
theorem kids_one {ks : Fo} {a : Nat} (ha : (szs ks)[0]? = some a) : a ≤ ks.size := by
  have := three_le (szs ks)
  rw [szs_sum, ha] at this
  simp only [Option.getD_some] at this
  omega
theorem kids_three {ks : Fo} {a b c : Nat} (ha : (szs ks)[0]? = some a) (hb : (szs ks)[1]? = some b) (hc : (szs ks)[2]? = some c) : a + b + c ≤ ks.size := by
  have := three_le (szs ks)
  rw [szs_sum, ha, hb, hc] at this
  simpa using this
theorem take_gr {sub : List Em} {ns : List Nat} (h : All2 Gr sub ns) : ∀ {j n : Nat}, ns[j]? = some n → ∀ s, (seqM (sub.take j) s).b.length + 25 * n ≤ s.b.length + 25 * ns.sum ∧ (seqM (sub.take j) s).later.length + 2 * n ≤ s.later.length + 2 * ns.sum := by
  induction h with
  | nil => intro j n hj; simp at hj
  | @cons f m l ms h0 _ ih =>
    intro j n hj s
    cases j with
    | zero => simp at hj; subst hj; simp [seqM]; omega
    | succ j =>
      have a := ih (by simpa using hj) (f s)
      have b := h0 s
      simp only [List.take_succ_cons, seqM, List.sum_cons]
      omega
theorem seqM_snoc (l : List Em) (f : Em) : ∀ s, seqM (l ++ [f]) s = f (seqM l s) := by
  induction l with
  | nil => intro s; rfl
  | cons a l ih => intro s; exact ih (a s)

theorem nodes_ok {E : MEnv} {i : Nat} {x : Nd} {ks r : Fo} (hfo : FoAt E.t i (.cons x ks r)) (ihN : KidsOk E i ks) (hw : ∀ p ∈ wfs ks, p) {s : Mk} {w : World} {lA : Option Addr} {lc : Nat} (h : MK E s w) (hl : KAt E i lA lc w)
    (hb : s.b.length + 25 * ks.size ≤ 1000000) (hb2 : s.later.length + 2 * ks.size ≤ 500000) :
    RetQ Tryz.prog 53 [kp E.kb, .slice lA (kidsL E.t i).length lc] w fun v w' => v = .tuple #[] ∧ TM E w w' ∧ MK E (seqM (ems E.P ks) s) w' := by
  have hlen := kids_len hfo
  have hkl := h.env.hl
  have hfl := FoAt.le hfo (by have := hfo.lt; omega)
  have hls := ks.len_le_size
  simp only [Fo.size] at hfl
  refine fn_goQ (cx_ok 16 []) wideOrders Tryz.func53 rfl rfl Tryz.call53 (by simp [cx]) ?_; conv => whnf
  refine EvLoop.go Nat (fun j => ⟨[(0, .v (kp E.kb)), (6, .v (.slice lA (kidsL E.t i).length lc)), (7, .v (.int .i64 (kidsL E.t i).length)), (8, .v (.int .i64 j))], [], 0⟩)
    (fun j w' => j ≤ ks.len ∧ TM E w w' ∧ KAt E i lA lc w' ∧ MK E (seqM ((ems E.P ks).take j) s) w') (fun j => ks.len - j) 0 (by (refine SubS.mk ?_ ?_ <;> (repeat' (first | exact True.intro | refine And.intro ?_ ?_)) <;> (first | rfl | exact svi (by omega) | exact List.mem_cons_self | exact List.mem_cons_of_mem _ List.mem_cons_self | exact List.mem_cons_of_mem _ (List.mem_cons_of_mem _ List.mem_cons_self) | skip))) ⟨by omega, TF.refl _ _ _ _, hl, h⟩ ?_
  rintro j w' ⟨hj, tf, hl', h'⟩
  conv => whnf
  refine EvIf.lt (fun g => ?_) (fun g => ?_)
  rotate_left
  · conv => whnf
    refine ⟨rfl, tf, ?_⟩
    rwa [List.take_of_length_le (by rw [ems_length]; omega)] at h'
  have hjl : j < ks.len := by omega
  obtain ⟨p, y, kk, kd, hwk⟩ := kid_of hfo hjl
  have hg := take_gr (ems_gr E.P ks) kd.sz s
  rw [szs_sum] at hg
  conv => whnf
  refine EvIdx.ints hl'.ints (by omega) (by omega) rfl rfl fun a ha => ?_
  rw [Int.toNat_natCast]
  conv => whnf
  refine EvLd.ints hl'.ints ha kd.pl ?_
  conv => whnf
  refine EvCall.retQ0 (ihN _ _ _ _ kd.at_ (hw _ (List.mem_of_getElem? hwk)) h' (by omega) (by omega)) fun v w2 hq => ?_
  obtain ⟨rfl, tf2, h2⟩ := hq
  rw [← kd.em] at h2
  conv => whnf
  refine EvAr.i64 (by omega) ?_; conv => whnf
  refine ⟨j + 1, by (refine SubS.mk ?_ ?_ <;> (repeat' (first | exact True.intro | refine And.intro ?_ ?_)) <;> (first | rfl | exact svi (by omega) | exact List.mem_cons_self | exact List.mem_cons_of_mem _ List.mem_cons_self | exact List.mem_cons_of_mem _ (List.mem_cons_of_mem _ List.mem_cons_self) | skip)), ⟨hjl, tf.trans tf2, hl'.tf tf2, ?_⟩, by omega⟩
  have e : (ems E.P ks).take (j + 1) = (ems E.P ks).take j ++ [nthM (ems E.P ks) j] := by
    rw [List.take_succ_eq_append_getElem (by rw [ems_length]; exact hjl)]
    unfold nthM
    rw [List.getElem?_eq_getElem (by rw [ems_length]; exact hjl)]
    rfl
  rw [e, seqM_snoc]
  exact h2


def AtW (ks : Fo) (j : Nat) : Prop := ∃ p, (wfs ks)[j]? = some p ∧ p

section
variable {E : MEnv} {i : Nat} {x : Nd} {ks r : Fo}

theorem or_ok (hfo : FoAt E.t i (.cons x ks r)) (ihN : KidsOk E i ks) (hw : AtW ks 0) (hw1 : AtW ks 1) : HOk 57 E i x ks [] (orM (ems E.P ks)) := by
  intro s w lA lc h hl hb hb2
  obtain ⟨p, hp0, hp⟩ := hw
  obtain ⟨p', hp0', hp'⟩ := hw1
  have hl0 := (List.getElem?_eq_some_iff.1 hp0).1
  have hl1 := (List.getElem?_eq_some_iff.1 hp0').1
  rw [wfs_length] at hl0 hl1
  obtain ⟨p0, y0, k0, kd0, e0⟩ := kid_of hfo hl0
  obtain ⟨p1, y1, k1, kd1, e1⟩ := kid_of hfo hl1
  rw [hp0] at e0; injection e0 with e0; subst e0
  rw [hp0'] at e1; injection e1 with e1; subst e1
  have hz01 := kids_two kd0.sz kd1.sz
  refine fn_goQ (cx_ok 28 [4]) wideOrders Tryz.func57 rfl rfl Tryz.call57 (by simp [cx]) ?_; conv => whnf
  have hlen := kids_len hfo
  refine EvNew.blk fun r4 w1 hr4 hz4 hF1 hB4 => ?_
  have hr4k : r4 ∉ [E.kb] := by obtain ⟨_, _, _, hm⟩ := h.me; have := hm.blk.lt; simp; omega
  replace hl := hl.fr0 hF1
  replace h := h.fr0 hF1
  have tf : TM E w w1 := TF.fr0 hF1
  conv => whnf
  refine EvIdx.ints hl.ints (by omega) (by omega) rfl rfl fun a ha => ?_
  conv => whnf
  refine EvLd.ints hl.ints ha kd0.pl ?_
  conv => whnf
  refine EvCall.retQ0 (ihN _ _ _ _ kd0.at_ hp h (by omega) (by omega)) fun v w2 hq => ?_
  rw [← kd0.em] at hq
  have ls1 := kd0.gr s
  obtain ⟨s1, qs1⟩ : ∃ z, z = nthM (ems E.P ks) 0 s := ⟨_, rfl⟩
  rw [← qs1] at hq ls1
  obtain ⟨rfl, tfx, hx⟩ := hq
  replace hl := hl.tf tfx
  try replace hB4 := hB4.tf tfx hr4k (.inr (by decide))
  try replace hoA := hoA.tf h tfx
  try replace hoB := hoB.tf h tfx
  replace tf := tf.trans tfx
  clear h
  have h := hx
  clear hx tfx
  conv => whnf
  refine EvCall.retQ0 (ahead_ok h (Fr.refl _ _) (xs := []) Own.nil (by simp [Value.ownBlock]) 31 (by simp; omega)) fun v w2 hq => ?_
  have ls2 := len_ahead 31 [] s1
  obtain ⟨s2, qs2⟩ : ∃ z, z = aheadM 31 [] s1 := ⟨_, rfl⟩
  rw [← qs2] at hq ls2
  try simp only [List.length_nil, List.length_cons] at ls2
  obtain ⟨ho1, tfx, hx⟩ := hq
  obtain ⟨rmA, raA, rfl, ho2⟩ := ho1.at_
  replace hl := hl.tf tfx
  try replace hB4 := hB4.tf tfx hr4k (.inr (by decide))
  try replace hoA := hoA.tf h tfx
  try replace hoB := hoB.tf h tfx
  have hoA := ho2
  clear ho1 ho2
  replace tf := tf.trans tfx
  clear h
  have h := hx
  clear hx tfx
  conv => whnf
  refine EvCall.retQ0 (op_ok h (Fr.refl _ _) (XsAt.nil _ _) 2 (by simp; omega)) fun v w2 hq => ?_
  have ls3 := len_op 2 [] s2
  obtain ⟨s3, qs3⟩ : ∃ z, z = opM 2 [] s2 := ⟨_, rfl⟩
  rw [← qs3] at hq ls3
  try simp only [List.length_nil, List.length_cons] at ls3
  obtain ⟨rfl, tfx, hx⟩ := hq
  replace hl := hl.tf tfx
  try replace hB4 := hB4.tf tfx hr4k (.inr (by decide))
  try replace hoA := hoA.tf h tfx
  try replace hoB := hoB.tf h tfx
  replace tf := tf.trans tfx
  clear h
  have h := hx
  clear hx tfx
  conv => whnf
  refine EvCall.retQ0 (ahead_ok h (Fr.refl _ _) (xs := []) Own.nil (by simp [Value.ownBlock]) 30 (by simp; omega)) fun v w2 hq => ?_
  have ls4 := len_ahead 30 [] s3
  obtain ⟨s4, qs4⟩ : ∃ z, z = aheadM 30 [] s3 := ⟨_, rfl⟩
  rw [← qs4] at hq ls4
  try simp only [List.length_nil, List.length_cons] at ls4
  obtain ⟨ho1, tfx, hx⟩ := hq
  obtain ⟨rmB, raB, rfl, ho2⟩ := ho1.at_
  replace hl := hl.tf tfx
  try replace hB4 := hB4.tf tfx hr4k (.inr (by decide))
  try replace hoA := hoA.tf h tfx
  try replace hoB := hoB.tf h tfx
  have hoB := ho2
  clear ho1 ho2
  replace tf := tf.trans tfx
  clear h
  have h := hx
  clear hx tfx
  conv => whnf
  refine EvCall.retQ0 (hoA.here h (by omega)) fun v w2 hq => ?_
  have ls5 := len_here (holeM s2) s4
  obtain ⟨s5, qs5⟩ : ∃ z, z = hereM (holeM s2) s4 := ⟨_, rfl⟩
  rw [← qs5] at hq ls5
  try simp only [List.length_nil, List.length_cons] at ls5
  obtain ⟨rfl, tfx, hx⟩ := hq
  replace hl := hl.tf tfx
  try replace hB4 := hB4.tf tfx hr4k (.inr (by decide))
  try replace hoA := hoA.tf h tfx
  try replace hoB := hoB.tf h tfx
  replace tf := tf.trans tfx
  clear h
  have h := hx
  clear hx tfx
  conv => whnf
  refine EvIdx.ints hl.ints (by omega) (by omega) rfl rfl fun a ha => ?_
  conv => whnf
  refine EvLd.ints hl.ints ha kd1.pl ?_
  conv => whnf
  refine EvCall.retQ0 (ihN _ _ _ _ kd1.at_ hp' h (by omega) (by omega)) fun v w2 hq => ?_
  rw [← kd1.em] at hq
  have ls6 := kd1.gr s5
  obtain ⟨s6, qs6⟩ : ∃ z, z = nthM (ems E.P ks) 1 s5 := ⟨_, rfl⟩
  rw [← qs6] at hq ls6
  obtain ⟨rfl, tfx, hx⟩ := hq
  replace hl := hl.tf tfx
  try replace hB4 := hB4.tf tfx hr4k (.inr (by decide))
  try replace hoA := hoA.tf h tfx
  try replace hoB := hoB.tf h tfx
  replace tf := tf.trans tfx
  clear h
  have h := hx
  clear hx tfx
  conv => whnf
  refine EvCall.retQ0 (hoB.here h (by omega)) fun v w2 hq => ?_
  have ls7 := len_here (holeM s4) s6
  obtain ⟨s7, qs7⟩ : ∃ z, z = hereM (holeM s4) s6 := ⟨_, rfl⟩
  rw [← qs7] at hq ls7
  try simp only [List.length_nil, List.length_cons] at ls7
  obtain ⟨rfl, tfx, hx⟩ := hq
  replace hl := hl.tf tfx
  try replace hB4 := hB4.tf tfx hr4k (.inr (by decide))
  try replace hoA := hoA.tf h tfx
  try replace hoB := hoB.tf h tfx
  replace tf := tf.trans tfx
  clear h
  have h := hx
  clear hx tfx
  conv => whnf
  subst qs7 qs6 qs5 qs4 qs3 qs2 qs1
  exact ⟨rfl, tf, h⟩

theorem and_ok (hfo : FoAt E.t i (.cons x ks r)) (ihN : KidsOk E i ks) (hw : AtW ks 0) (hw1 : AtW ks 1) : HOk 58 E i x ks [] (andM (ems E.P ks)) := by
  intro s w lA lc h hl hb hb2
  obtain ⟨p, hp0, hp⟩ := hw
  obtain ⟨p', hp0', hp'⟩ := hw1
  have hl0 := (List.getElem?_eq_some_iff.1 hp0).1
  have hl1 := (List.getElem?_eq_some_iff.1 hp0').1
  rw [wfs_length] at hl0 hl1
  obtain ⟨p0, y0, k0, kd0, e0⟩ := kid_of hfo hl0
  obtain ⟨p1, y1, k1, kd1, e1⟩ := kid_of hfo hl1
  rw [hp0] at e0; injection e0 with e0; subst e0
  rw [hp0'] at e1; injection e1 with e1; subst e1
  have hz01 := kids_two kd0.sz kd1.sz
  refine fn_goQ (cx_ok 28 [4]) wideOrders Tryz.func58 rfl rfl Tryz.call58 (by simp [cx]) ?_; conv => whnf
  have hlen := kids_len hfo
  refine EvNew.blk fun r4 w1 hr4 hz4 hF1 hB4 => ?_
  have hr4k : r4 ∉ [E.kb] := by obtain ⟨_, _, _, hm⟩ := h.me; have := hm.blk.lt; simp; omega
  replace hl := hl.fr0 hF1
  replace h := h.fr0 hF1
  have tf : TM E w w1 := TF.fr0 hF1
  conv => whnf
  refine EvIdx.ints hl.ints (by omega) (by omega) rfl rfl fun a ha => ?_
  conv => whnf
  refine EvLd.ints hl.ints ha kd0.pl ?_
  conv => whnf
  refine EvCall.retQ0 (ihN _ _ _ _ kd0.at_ hp h (by omega) (by omega)) fun v w2 hq => ?_
  rw [← kd0.em] at hq
  have ls1 := kd0.gr s
  obtain ⟨s1, qs1⟩ : ∃ z, z = nthM (ems E.P ks) 0 s := ⟨_, rfl⟩
  rw [← qs1] at hq ls1
  obtain ⟨rfl, tfx, hx⟩ := hq
  replace hl := hl.tf tfx
  try replace hB4 := hB4.tf tfx hr4k (.inr (by decide))
  try replace hoA := hoA.tf h tfx
  try replace hoB := hoB.tf h tfx
  replace tf := tf.trans tfx
  clear h
  have h := hx
  clear hx tfx
  conv => whnf
  refine EvCall.retQ0 (ahead_ok h (Fr.refl _ _) (xs := []) Own.nil (by simp [Value.ownBlock]) 31 (by simp; omega)) fun v w2 hq => ?_
  have ls2 := len_ahead 31 [] s1
  obtain ⟨s2, qs2⟩ : ∃ z, z = aheadM 31 [] s1 := ⟨_, rfl⟩
  rw [← qs2] at hq ls2
  try simp only [List.length_nil, List.length_cons] at ls2
  obtain ⟨ho1, tfx, hx⟩ := hq
  obtain ⟨rmA, raA, rfl, ho2⟩ := ho1.at_
  replace hl := hl.tf tfx
  try replace hB4 := hB4.tf tfx hr4k (.inr (by decide))
  try replace hoA := hoA.tf h tfx
  try replace hoB := hoB.tf h tfx
  have hoA := ho2
  clear ho1 ho2
  replace tf := tf.trans tfx
  clear h
  have h := hx
  clear hx tfx
  conv => whnf
  refine EvIdx.ints hl.ints (by omega) (by omega) rfl rfl fun a ha => ?_
  conv => whnf
  refine EvLd.ints hl.ints ha kd1.pl ?_
  conv => whnf
  refine EvCall.retQ0 (ihN _ _ _ _ kd1.at_ hp' h (by omega) (by omega)) fun v w2 hq => ?_
  rw [← kd1.em] at hq
  have ls3 := kd1.gr s2
  obtain ⟨s3, qs3⟩ : ∃ z, z = nthM (ems E.P ks) 1 s2 := ⟨_, rfl⟩
  rw [← qs3] at hq ls3
  obtain ⟨rfl, tfx, hx⟩ := hq
  replace hl := hl.tf tfx
  try replace hB4 := hB4.tf tfx hr4k (.inr (by decide))
  try replace hoA := hoA.tf h tfx
  try replace hoB := hoB.tf h tfx
  replace tf := tf.trans tfx
  clear h
  have h := hx
  clear hx tfx
  conv => whnf
  refine EvCall.retQ0 (ahead_ok h (Fr.refl _ _) (xs := []) Own.nil (by simp [Value.ownBlock]) 30 (by simp; omega)) fun v w2 hq => ?_
  have ls4 := len_ahead 30 [] s3
  obtain ⟨s4, qs4⟩ : ∃ z, z = aheadM 30 [] s3 := ⟨_, rfl⟩
  rw [← qs4] at hq ls4
  try simp only [List.length_nil, List.length_cons] at ls4
  obtain ⟨ho1, tfx, hx⟩ := hq
  obtain ⟨rmB, raB, rfl, ho2⟩ := ho1.at_
  replace hl := hl.tf tfx
  try replace hB4 := hB4.tf tfx hr4k (.inr (by decide))
  try replace hoA := hoA.tf h tfx
  try replace hoB := hoB.tf h tfx
  have hoB := ho2
  clear ho1 ho2
  replace tf := tf.trans tfx
  clear h
  have h := hx
  clear hx tfx
  conv => whnf
  refine EvCall.retQ0 (hoA.here h (by omega)) fun v w2 hq => ?_
  have ls5 := len_here (holeM s2) s4
  obtain ⟨s5, qs5⟩ : ∃ z, z = hereM (holeM s2) s4 := ⟨_, rfl⟩
  rw [← qs5] at hq ls5
  try simp only [List.length_nil, List.length_cons] at ls5
  obtain ⟨rfl, tfx, hx⟩ := hq
  replace hl := hl.tf tfx
  try replace hB4 := hB4.tf tfx hr4k (.inr (by decide))
  try replace hoA := hoA.tf h tfx
  try replace hoB := hoB.tf h tfx
  replace tf := tf.trans tfx
  clear h
  have h := hx
  clear hx tfx
  conv => whnf
  refine EvCall.retQ0 (op_ok h (Fr.refl _ _) (XsAt.nil _ _) 3 (by simp; omega)) fun v w2 hq => ?_
  have ls6 := len_op 3 [] s5
  obtain ⟨s6, qs6⟩ : ∃ z, z = opM 3 [] s5 := ⟨_, rfl⟩
  rw [← qs6] at hq ls6
  try simp only [List.length_nil, List.length_cons] at ls6
  obtain ⟨rfl, tfx, hx⟩ := hq
  replace hl := hl.tf tfx
  try replace hB4 := hB4.tf tfx hr4k (.inr (by decide))
  try replace hoA := hoA.tf h tfx
  try replace hoB := hoB.tf h tfx
  replace tf := tf.trans tfx
  clear h
  have h := hx
  clear hx tfx
  conv => whnf
  refine EvCall.retQ0 (hoB.here h (by omega)) fun v w2 hq => ?_
  have ls7 := len_here (holeM s4) s6
  obtain ⟨s7, qs7⟩ : ∃ z, z = hereM (holeM s4) s6 := ⟨_, rfl⟩
  rw [← qs7] at hq ls7
  try simp only [List.length_nil, List.length_cons] at ls7
  obtain ⟨rfl, tfx, hx⟩ := hq
  replace hl := hl.tf tfx
  try replace hB4 := hB4.tf tfx hr4k (.inr (by decide))
  try replace hoA := hoA.tf h tfx
  try replace hoB := hoB.tf h tfx
  replace tf := tf.trans tfx
  clear h
  have h := hx
  clear hx tfx
  conv => whnf
  subst qs7 qs6 qs5 qs4 qs3 qs2 qs1
  exact ⟨rfl, tf, h⟩

theorem block_ok' (hfo : FoAt E.t i (.cons x ks r)) (ihN : KidsOk E i ks) (hw : ∀ p ∈ wfs ks, p) : HOk 52 E i x ks [] (seqM (ems E.P ks)) := by
  intro s w lA lc h hl hb hb2
  refine fn_goQ (cx_ok 9 [4]) wideOrders Tryz.func52 rfl rfl Tryz.call52 (by simp [cx]) ?_; conv => whnf
  have hlen := kids_len hfo
  refine EvNew.blk fun r4 w1 hr4 hz4 hF1 hB4 => ?_
  have hr4k : r4 ∉ [E.kb] := by obtain ⟨_, _, _, hm⟩ := h.me; have := hm.blk.lt; simp; omega
  replace hl := hl.fr0 hF1
  replace h := h.fr0 hF1
  have tf : TM E w w1 := TF.fr0 hF1
  conv => whnf
  refine EvCall.retQ0 (nodes_ok hfo ihN hw h hl (by omega) (by omega)) fun v w2 hq => ?_
  have ls1 := seq_gr (ems_gr E.P ks) s
  rw [szs_sum] at ls1
  obtain ⟨s1, qs1⟩ : ∃ z, z = seqM (ems E.P ks) s := ⟨_, rfl⟩
  rw [← qs1] at hq ls1
  obtain ⟨rfl, tfx, hx⟩ := hq
  replace hl := hl.tf tfx
  try replace hB4 := hB4.tf tfx hr4k (.inr (by decide))
  try replace hoA := hoA.tf h tfx
  try replace hoB := hoB.tf h tfx
  replace tf := tf.trans tfx
  clear h
  have h := hx
  clear hx tfx
  conv => whnf
  subst qs1
  exact ⟨rfl, tf, h⟩

theorem num_ok (hfo : FoAt E.t i (.cons x ks r)) : HOk 54 E i x ks [] (pushM E.P x.n) := by
  intro s w lA lc h hl hb hb2
  refine fn_goQ (cx_ok 10 [4]) wideOrders Tryz.func54 rfl rfl Tryz.call54 (by simp [cx]) ?_; conv => whnf
  have hlen := kids_len hfo
  refine EvNew.blk fun r4 w1 hr4 hz4 hF1 hB4 => ?_
  have hr4k : r4 ∉ [E.kb] := by obtain ⟨_, _, _, hm⟩ := h.me; have := hm.blk.lt; simp; omega
  replace hl := hl.fr0 hF1
  replace h := h.fr0 hF1
  have tf : TM E w w1 := TF.fr0 hF1
  conv => whnf
  refine EvLd.blk hB4 rfl ?_
  conv => whnf
  refine EvCall.retQ0 (push_ok h x.n (by omega)) fun v w2 hq => ?_
  have ls1 := len_push E.P x.n s
  obtain ⟨s1, qs1⟩ : ∃ z, z = pushM E.P x.n s := ⟨_, rfl⟩
  rw [← qs1] at hq ls1
  try simp only [List.length_nil, List.length_cons] at ls1
  obtain ⟨rfl, tfx, hx⟩ := hq
  replace hl := hl.tf tfx
  try replace hB4 := hB4.tf tfx hr4k (.inr (by decide))
  try replace hoA := hoA.tf h tfx
  try replace hoB := hoB.tf h tfx
  replace tf := tf.trans tfx
  clear h
  have h := hx
  clear hx tfx
  conv => whnf
  subst qs1
  exact ⟨rfl, tf, h⟩

theorem name_ok (hfo : FoAt E.t i (.cons x ks r)) : HOk 56 E i x ks [] (opM 4 [u8 x.n]) := by
  intro s w lA lc h hl hb hb2
  refine fn_goQ (cx_ok 12 [4]) wideOrders Tryz.func56 rfl rfl Tryz.call56 (by simp [cx]) ?_; conv => whnf
  have hlen := kids_len hfo
  refine EvNew.blk fun r4 w1 hr4 hz4 hF1 hB4 => ?_
  have hr4k : r4 ∉ [E.kb] := by obtain ⟨_, _, _, hm⟩ := h.me; have := hm.blk.lt; simp; omega
  replace hl := hl.fr0 hF1
  replace h := h.fr0 hF1
  have tf : TM E w w1 := TF.fr0 hF1
  conv => whnf
  refine EvLd.blk hB4 rfl ?_
  conv => whnf
  refine ⟨?_⟩
  conv => whnf
  refine EvNew.blk fun rx wx hrx hzx hFx hBx => ?_
  conv => whnf
  have hBx' : HB wx rx 5 (([u8 x.n] : List Int).map fun x => .int .u8 x) := hBx
  refine EvCall.retQ0 (op_ok h hFx (XsAt.blk hBx' (by omega) rfl) 4 (by simp; omega)) fun v w2 hq => ?_
  have ls1 := len_op 4 ([u8 x.n]) s
  obtain ⟨s1, qs1⟩ : ∃ z, z = opM 4 [u8 x.n] s := ⟨_, rfl⟩
  rw [← qs1] at hq ls1
  try simp only [List.length_nil, List.length_cons] at ls1
  replace hl := hl.fr0 hFx
  try replace hB4 := hB4.fr0 hFx
  try replace hoA := hoA.fr0 hFx
  try replace hoB := hoB.fr0 hFx
  replace tf := tf.trans (TF.fr0 hFx)
  replace h := h.fr0 hFx
  obtain ⟨rfl, tfx, hx⟩ := hq
  replace hl := hl.tf tfx
  try replace hB4 := hB4.tf tfx hr4k (.inr (by decide))
  try replace hoA := hoA.tf h tfx
  try replace hoB := hoB.tf h tfx
  replace tf := tf.trans tfx
  clear h
  have h := hx
  clear hx tfx
  conv => whnf
  subst qs1
  exact ⟨rfl, tf, h⟩

theorem field_ok (hfo : FoAt E.t i (.cons x ks r)) (ihN : KidsOk E i ks) (hw : ∀ p ∈ wfs ks, p) : HOk 64 E i x ks [] (fun s => opM 46 [u8 x.n] (seqM (ems E.P ks) s)) := by
  intro s w lA lc h hl hb hb2
  refine fn_goQ (cx_ok 15 [4]) wideOrders Tryz.func64 rfl rfl Tryz.call64 (by simp [cx]) ?_; conv => whnf
  have hlen := kids_len hfo
  refine EvNew.blk fun r4 w1 hr4 hz4 hF1 hB4 => ?_
  have hr4k : r4 ∉ [E.kb] := by obtain ⟨_, _, _, hm⟩ := h.me; have := hm.blk.lt; simp; omega
  replace hl := hl.fr0 hF1
  replace h := h.fr0 hF1
  have tf : TM E w w1 := TF.fr0 hF1
  conv => whnf
  refine EvCall.retQ0 (nodes_ok hfo ihN hw h hl (by omega) (by omega)) fun v w2 hq => ?_
  have ls1 := seq_gr (ems_gr E.P ks) s
  rw [szs_sum] at ls1
  obtain ⟨s1, qs1⟩ : ∃ z, z = seqM (ems E.P ks) s := ⟨_, rfl⟩
  rw [← qs1] at hq ls1
  obtain ⟨rfl, tfx, hx⟩ := hq
  replace hl := hl.tf tfx
  try replace hB4 := hB4.tf tfx hr4k (.inr (by decide))
  try replace hoA := hoA.tf h tfx
  try replace hoB := hoB.tf h tfx
  replace tf := tf.trans tfx
  clear h
  have h := hx
  clear hx tfx
  conv => whnf
  refine EvLd.blk hB4 rfl ?_
  conv => whnf
  refine ⟨?_⟩
  conv => whnf
  refine EvNew.blk fun rx wx hrx hzx hFx hBx => ?_
  conv => whnf
  have hBx' : HB wx rx 5 (([u8 x.n] : List Int).map fun x => .int .u8 x) := hBx
  refine EvCall.retQ0 (op_ok h hFx (XsAt.blk hBx' (by omega) rfl) 46 (by simp; omega)) fun v w2 hq => ?_
  have ls2 := len_op 46 ([u8 x.n]) s1
  obtain ⟨s2, qs2⟩ : ∃ z, z = opM 46 [u8 x.n] s1 := ⟨_, rfl⟩
  rw [← qs2] at hq ls2
  try simp only [List.length_nil, List.length_cons] at ls2
  replace hl := hl.fr0 hFx
  try replace hB4 := hB4.fr0 hFx
  try replace hoA := hoA.fr0 hFx
  try replace hoB := hoB.fr0 hFx
  replace tf := tf.trans (TF.fr0 hFx)
  replace h := h.fr0 hFx
  obtain ⟨rfl, tfx, hx⟩ := hq
  replace hl := hl.tf tfx
  try replace hB4 := hB4.tf tfx hr4k (.inr (by decide))
  try replace hoA := hoA.tf h tfx
  try replace hoB := hoB.tf h tfx
  replace tf := tf.trans tfx
  clear h
  have h := hx
  clear hx tfx
  conv => whnf
  subst qs2 qs1
  exact ⟨rfl, tf, h⟩
theorem do_ok (hfo : FoAt E.t i (.cons x ks r)) (ihN : KidsOk E i ks) (hw : ∀ p ∈ wfs ks, p) : HOk 65 E i x ks [] (fun s => opM 60 [u8 x.n] (seqM (ems E.P ks) s)) := by
  intro s w lA lc h hl hb hb2
  refine fn_goQ (cx_ok 15 [4]) wideOrders Tryz.func65 rfl rfl Tryz.call65 (by simp [cx]) ?_; conv => whnf
  have hlen := kids_len hfo
  refine EvNew.blk fun r4 w1 hr4 hz4 hF1 hB4 => ?_
  have hr4k : r4 ∉ [E.kb] := by obtain ⟨_, _, _, hm⟩ := h.me; have := hm.blk.lt; simp; omega
  replace hl := hl.fr0 hF1
  replace h := h.fr0 hF1
  have tf : TM E w w1 := TF.fr0 hF1
  conv => whnf
  refine EvCall.retQ0 (nodes_ok hfo ihN hw h hl (by omega) (by omega)) fun v w2 hq => ?_
  have ls1 := seq_gr (ems_gr E.P ks) s
  rw [szs_sum] at ls1
  obtain ⟨s1, qs1⟩ : ∃ z, z = seqM (ems E.P ks) s := ⟨_, rfl⟩
  rw [← qs1] at hq ls1
  obtain ⟨rfl, tfx, hx⟩ := hq
  replace hl := hl.tf tfx
  try replace hB4 := hB4.tf tfx hr4k (.inr (by decide))
  try replace hoA := hoA.tf h tfx
  try replace hoB := hoB.tf h tfx
  replace tf := tf.trans tfx
  clear h
  have h := hx
  clear hx tfx
  conv => whnf
  refine EvLd.blk hB4 rfl ?_
  conv => whnf
  refine ⟨?_⟩
  conv => whnf
  refine EvNew.blk fun rx wx hrx hzx hFx hBx => ?_
  conv => whnf
  have hBx' : HB wx rx 5 (([u8 x.n] : List Int).map fun x => .int .u8 x) := hBx
  refine EvCall.retQ0 (op_ok h hFx (XsAt.blk hBx' (by omega) rfl) 60 (by simp; omega)) fun v w2 hq => ?_
  have ls2 := len_op 60 ([u8 x.n]) s1
  obtain ⟨s2, qs2⟩ : ∃ z, z = opM 60 [u8 x.n] s1 := ⟨_, rfl⟩
  rw [← qs2] at hq ls2
  try simp only [List.length_nil, List.length_cons] at ls2
  replace hl := hl.fr0 hFx
  try replace hB4 := hB4.fr0 hFx
  try replace hoA := hoA.fr0 hFx
  try replace hoB := hoB.fr0 hFx
  replace tf := tf.trans (TF.fr0 hFx)
  replace h := h.fr0 hFx
  obtain ⟨rfl, tfx, hx⟩ := hq
  replace hl := hl.tf tfx
  try replace hB4 := hB4.tf tfx hr4k (.inr (by decide))
  try replace hoA := hoA.tf h tfx
  try replace hoB := hoB.tf h tfx
  replace tf := tf.trans tfx
  clear h
  have h := hx
  clear hx tfx
  conv => whnf
  subst qs2 qs1
  exact ⟨rfl, tf, h⟩
theorem store_ok (hfo : FoAt E.t i (.cons x ks r)) (ihN : KidsOk E i ks) (hw : ∀ p ∈ wfs ks, p) : HOk 68 E i x ks [] (fun s => opM 5 [u8 x.n] (seqM (ems E.P ks) s)) := by
  intro s w lA lc h hl hb hb2
  refine fn_goQ (cx_ok 15 [4]) wideOrders Tryz.func68 rfl rfl Tryz.call68 (by simp [cx]) ?_; conv => whnf
  have hlen := kids_len hfo
  refine EvNew.blk fun r4 w1 hr4 hz4 hF1 hB4 => ?_
  have hr4k : r4 ∉ [E.kb] := by obtain ⟨_, _, _, hm⟩ := h.me; have := hm.blk.lt; simp; omega
  replace hl := hl.fr0 hF1
  replace h := h.fr0 hF1
  have tf : TM E w w1 := TF.fr0 hF1
  conv => whnf
  refine EvCall.retQ0 (nodes_ok hfo ihN hw h hl (by omega) (by omega)) fun v w2 hq => ?_
  have ls1 := seq_gr (ems_gr E.P ks) s
  rw [szs_sum] at ls1
  obtain ⟨s1, qs1⟩ : ∃ z, z = seqM (ems E.P ks) s := ⟨_, rfl⟩
  rw [← qs1] at hq ls1
  obtain ⟨rfl, tfx, hx⟩ := hq
  replace hl := hl.tf tfx
  try replace hB4 := hB4.tf tfx hr4k (.inr (by decide))
  try replace hoA := hoA.tf h tfx
  try replace hoB := hoB.tf h tfx
  replace tf := tf.trans tfx
  clear h
  have h := hx
  clear hx tfx
  conv => whnf
  refine EvLd.blk hB4 rfl ?_
  conv => whnf
  refine ⟨?_⟩
  conv => whnf
  refine EvNew.blk fun rx wx hrx hzx hFx hBx => ?_
  conv => whnf
  have hBx' : HB wx rx 5 (([u8 x.n] : List Int).map fun x => .int .u8 x) := hBx
  refine EvCall.retQ0 (op_ok h hFx (XsAt.blk hBx' (by omega) rfl) 5 (by simp; omega)) fun v w2 hq => ?_
  have ls2 := len_op 5 ([u8 x.n]) s1
  obtain ⟨s2, qs2⟩ : ∃ z, z = opM 5 [u8 x.n] s1 := ⟨_, rfl⟩
  rw [← qs2] at hq ls2
  try simp only [List.length_nil, List.length_cons] at ls2
  replace hl := hl.fr0 hFx
  try replace hB4 := hB4.fr0 hFx
  try replace hoA := hoA.fr0 hFx
  try replace hoB := hoB.fr0 hFx
  replace tf := tf.trans (TF.fr0 hFx)
  replace h := h.fr0 hFx
  obtain ⟨rfl, tfx, hx⟩ := hq
  replace hl := hl.tf tfx
  try replace hB4 := hB4.tf tfx hr4k (.inr (by decide))
  try replace hoA := hoA.tf h tfx
  try replace hoB := hoB.tf h tfx
  replace tf := tf.trans tfx
  clear h
  have h := hx
  clear hx tfx
  conv => whnf
  subst qs2 qs1
  exact ⟨rfl, tf, h⟩

theorem plain_ok (hfo : FoAt E.t i (.cons x ks r)) (ihN : KidsOk E i ks) (hw : ∀ p ∈ wfs ks, p) {s : Mk} {w : World} {lA : Option Addr} {lc : Nat} (h : MK E s w) (hl : KAt E i lA lc w) (hb : s.b.length + 25 * (1 + ks.size) ≤ 1000000) (hb2 : s.later.length + 2 * (1 + ks.size) ≤ 500000)
    {rc : Nat} {c : Int} (hrc : rc < E.B) (hpc : HB w rc 5 [.int .u8 c]) :
    RetQ Tryz.prog 67 [kp E.kb, .agg x.cells.toArray, .slice lA (kidsL E.t i).length lc, pt rc] w fun v w' => v = .tuple #[] ∧ TM E w w' ∧ MK E (opM c [] (seqM (ems E.P ks) s)) w' := by
  have hrk : rc ∉ [E.kb] := by have := h.env.hk; simp; omega
  refine fn_goQ (cx_ok 13 [5]) wideOrders Tryz.func67 rfl rfl Tryz.call67 (by simp [cx]) ?_; conv => whnf
  have hlen := kids_len hfo
  refine EvNew.blk fun r4 w1 hr4 hz4 hF1 hB4 => ?_
  have hr4k : r4 ∉ [E.kb] := by obtain ⟨_, _, _, hm⟩ := h.me; have := hm.blk.lt; simp; omega
  replace hl := hl.fr0 hF1
  replace h := h.fr0 hF1
  have tf : TM E w w1 := TF.fr0 hF1
  conv => whnf
  have hpc1 := hpc.fr0 hF1
  refine EvCall.retQ0 (nodes_ok hfo ihN hw h hl (by omega) (by omega)) fun v w2 hq => ?_
  have ls1 := seq_gr (ems_gr E.P ks) s
  rw [szs_sum] at ls1
  obtain ⟨s1, qs1⟩ : ∃ z, z = seqM (ems E.P ks) s := ⟨_, rfl⟩
  rw [← qs1] at hq ls1
  obtain ⟨rfl, tfx, hx⟩ := hq
  replace hl := hl.tf tfx
  try replace hB4 := hB4.tf tfx hr4k (.inr (by decide))
  try replace hoA := hoA.tf h tfx
  try replace hoB := hoB.tf h tfx
  replace tf := tf.trans tfx
  clear h
  have h := hx
  clear hx tfx
  conv => whnf
  refine EvLd.blk0 (hpc.tf tf hrk (.inl hrc)) rfl ?_
  conv => whnf
  refine EvCall.retQ0 (op_ok h (Fr.refl _ _) (XsAt.nil _ _) c (by simp; omega)) fun v w2 hq => ?_
  have ls2 := len_op c [] s1
  obtain ⟨s2, qs2⟩ : ∃ z, z = opM c [] s1 := ⟨_, rfl⟩
  rw [← qs2] at hq ls2
  try simp only [List.length_nil, List.length_cons] at ls2
  obtain ⟨rfl, tfx, hx⟩ := hq
  replace hl := hl.tf tfx
  try replace hB4 := hB4.tf tfx hr4k (.inr (by decide))
  try replace hoA := hoA.tf h tfx
  try replace hoB := hoB.tf h tfx
  replace tf := tf.trans tfx
  clear h
  have h := hx
  clear hx tfx
  conv => whnf
  subst qs2 qs1
  exact ⟨rfl, tf, h⟩

theorem Kid.cell {j p : Nat} {y : Nd} {kk : Fo} (kd : Kid E i ks j p y kk) {w : World} (h : NodesAt w E.At E.t) {a : Addr} (ha : E.At = some a) {n : Nat} {v : Value} (hv : y.cells[n]? = some v) : w.cell? ((a.add (p * 7)).add n) = some v := by
  have hg := kd.get
  rw [List.getElem?_eq_getElem kd.lt] at hg
  injection hg with hg
  exact h.cell ha kd.lt n (by rw [hg]; exact hv)

theorem equal_ok (hfo : FoAt E.t i (.cons x ks r)) (ihN : KidsOk E i ks) (hw : ∀ p ∈ wfs ks, p) (hk0 : 0 < ks.len) : HOk 59 E i x ks [] (equalM x ks.heads (ems E.P ks)) := by
  intro s w lA lc h hl hb hb2
  obtain ⟨p0, y0, k0, kd0, e0⟩ := kid_of (E := E) hfo hk0
  refine fn_goQ (cx_ok 28 [4]) wideOrders Tryz.func59 rfl rfl Tryz.call59 (by simp [cx]) ?_; conv => whnf
  have hlen := kids_len hfo
  refine EvNew.blk fun r4 w1 hr4 hz4 hF1 hB4 => ?_
  have hr4k : r4 ∉ [E.kb] := by obtain ⟨_, _, _, hm⟩ := h.me; have := hm.blk.lt; simp; omega
  replace hl := hl.fr0 hF1
  replace h := h.fr0 hF1
  have tf : TM E w w1 := TF.fr0 hF1
  conv => whnf
  refine EvCall.retQ0 (nodes_ok hfo ihN hw h hl (by omega) (by omega)) fun v w2 hq => ?_
  have ls1 := seq_gr (ems_gr E.P ks) s
  rw [szs_sum] at ls1
  obtain ⟨s1, qs1⟩ : ∃ z, z = seqM (ems E.P ks) s := ⟨_, rfl⟩
  rw [← qs1] at hq ls1
  obtain ⟨rfl, tfx, hx⟩ := hq
  replace hl := hl.tf tfx
  try replace hB4 := hB4.tf tfx hr4k (.inr (by decide))
  try replace hoA := hoA.tf h tfx
  try replace hoB := hoB.tf h tfx
  replace tf := tf.trans tfx
  clear h
  have h := hx
  clear hx tfx
  conv => whnf
  refine EvDraw.go (fun w' => Fr [] w2 w') (some 13) (.take 0 true (.take 1 true (.take 2 true (.take 3 true (.take 4 true (.take 5 true (.take 6 true (.take 7 true (.take 8 true (.take 9 true (.take 10 true (.take 11 true (.exec 12 (.exec 13 .done)))))))))))))) (by kernel_rfl) ?_ ?_
  · exact Fr.drew _
  obtain ⟨bv, lv, lvs, hm⟩ := h.me
  conv => whnf
  refine ⟨_, fun w' hw => (hm.blk.fr0 hw.1).add rfl, ?_⟩
  conv => whnf
  refine EvIdx.ints hl.ints (by omega) (by omega) rfl rfl fun a ha => ?_
  conv => whnf
  refine ⟨_, fun w' hw => IntsAt.cell (Rows.fr0 hl.ints hw.1) ha kd0.pl, ?_⟩
  conv => whnf
  refine EvIdx.nd h.env.tree kd0.lt rfl fun a2 ha2 => ?_
  conv => whnf
  refine ⟨_, fun w' hw => kd0.cell (Rows.fr0 h.env.tree hw.1) ha2 (n := 1) rfl, ?_⟩
  conv => whnf
  refine ⟨?_⟩
  conv => whnf
  have hFd := Fr.drew w2
  replace hl := hl.fr0 hFd
  try replace hB4 := hB4.fr0 hFd
  try replace hoA := hoA.fr0 hFd
  try replace hoB := hoB.fr0 hFd
  replace tf := tf.trans (TF.fr0 hFd)
  replace h := h.fr0 hFd
  refine EvNew.blk fun rx wx hrx hzx hFx hBx => ?_
  conv => whnf
  refine ⟨hFd.trans hFx, ?_⟩
  conv => whnf
  have hBx' : HB wx rx 5 (([u8 y0.kind] : List Int).map fun x => .int .u8 x) := hBx
  refine EvCall.retQ0 (op_ok h hFx (XsAt.blk hBx' (by omega) rfl) 24 (by simp; omega)) fun v w3 hq => ?_
  have ls2 := len_op 24 ([u8 y0.kind]) s1
  obtain ⟨s2, qs2⟩ : ∃ z, z = opM 24 [u8 y0.kind] s1 := ⟨_, rfl⟩
  rw [← qs2] at hq ls2
  try simp only [List.length_nil, List.length_cons] at ls2
  replace hl := hl.fr0 hFx
  try replace hB4 := hB4.fr0 hFx
  try replace hoA := hoA.fr0 hFx
  try replace hoB := hoB.fr0 hFx
  replace tf := tf.trans (TF.fr0 hFx)
  replace h := h.fr0 hFx
  obtain ⟨rfl, tfx, hx⟩ := hq
  replace hl := hl.tf tfx
  try replace hB4 := hB4.tf tfx hr4k (.inr (by decide))
  try replace hoA := hoA.tf h tfx
  try replace hoB := hoB.tf h tfx
  replace tf := tf.trans tfx
  clear h
  have h := hx
  clear hx tfx
  conv => whnf
  have e2 : s2 = opM 24 [u8 ((ks.heads[0]?).getD default).kind] (seqM (ems E.P ks) s) := by rw [kd0.hd, qs2, qs1]; rfl
  refine EvLd.blk0 hB4 rfl ?_
  conv => whnf
  refine EvIf.eq (fun g => ?_) (fun g => ?_)
  · conv => whnf
    refine EvCall.retQ0 (op_ok h (Fr.refl _ _) (XsAt.nil _ _) 23 (by simp; omega)) fun v w2 hq => ?_
    have ls3 := len_op 23 [] s2
    obtain ⟨s3, qs3⟩ : ∃ z, z = opM 23 [] s2 := ⟨_, rfl⟩
    rw [← qs3] at hq ls3
    try simp only [List.length_nil, List.length_cons] at ls3
    obtain ⟨rfl, tfx, hx⟩ := hq
    replace hl := hl.tf tfx
    try replace hB4 := hB4.tf tfx hr4k (.inr (by decide))
    try replace hoA := hoA.tf h tfx
    try replace hoB := hoB.tf h tfx
    replace tf := tf.trans tfx
    clear h
    have h := hx
    clear hx tfx
    conv => whnf
    subst qs3
    refine ⟨rfl, tf, ?_⟩
    show MK E (if x.op = 39 then _ else _) _
    rw [if_pos g, ← e2]
    exact h
  · conv => whnf
    refine ⟨rfl, tf, ?_⟩
    show MK E (if x.op = 39 then _ else _) _
    rw [if_neg g, ← e2]
    exact h

theorem fork_ok (hfo : FoAt E.t i (.cons x ks r)) (ihN : KidsOk E i ks) (hw : AtW ks 0) (hw1 : AtW ks 1) (hw2 : 3 ≤ ks.len → AtW ks 2) : HOk 61 E i x ks [] (forkM x (ems E.P ks)) := by
  intro s w lA lc h hl hb hb2
  obtain ⟨p, hp0, hp⟩ := hw
  obtain ⟨p', hp0', hp'⟩ := hw1
  have hl0 := (List.getElem?_eq_some_iff.1 hp0).1
  have hl1 := (List.getElem?_eq_some_iff.1 hp0').1
  rw [wfs_length] at hl0 hl1
  obtain ⟨p0, y0, k0, kd0, e0⟩ := kid_of hfo hl0
  obtain ⟨p1, y1, k1, kd1, e1⟩ := kid_of hfo hl1
  rw [hp0] at e0; injection e0 with e0; subst e0
  rw [hp0'] at e1; injection e1 with e1; subst e1
  have hz01 := kids_two kd0.sz kd1.sz
  refine fn_goQ (cx_ok 47 [4]) wideOrders Tryz.func61 rfl rfl Tryz.call61 (by simp [cx]) ?_; conv => whnf
  have hlen := kids_len hfo
  refine EvNew.blk fun r4 w1 hr4 hz4 hF1 hB4 => ?_
  have hr4k : r4 ∉ [E.kb] := by obtain ⟨_, _, _, hm⟩ := h.me; have := hm.blk.lt; simp; omega
  replace hl := hl.fr0 hF1
  replace h := h.fr0 hF1
  have tf : TM E w w1 := TF.fr0 hF1
  conv => whnf
  refine EvIdx.ints hl.ints (by omega) (by omega) rfl rfl fun a ha => ?_
  conv => whnf
  refine EvLd.ints hl.ints ha kd0.pl ?_
  conv => whnf
  refine EvCall.retQ0 (ihN _ _ _ _ kd0.at_ hp h (by omega) (by omega)) fun v w2 hq => ?_
  rw [← kd0.em] at hq
  have ls1 := kd0.gr s
  obtain ⟨s1, qs1⟩ : ∃ z, z = nthM (ems E.P ks) 0 s := ⟨_, rfl⟩
  rw [← qs1] at hq ls1
  obtain ⟨rfl, tfx, hx⟩ := hq
  replace hl := hl.tf tfx
  try replace hB4 := hB4.tf tfx hr4k (.inr (by decide))
  try replace hoA := hoA.tf h tfx
  try replace hoB := hoB.tf h tfx
  replace tf := tf.trans tfx
  clear h
  have h := hx
  clear hx tfx
  conv => whnf
  refine EvLd.blk0 hB4 rfl ?_
  conv => whnf
  refine EvIf.eq (fun g => ?_) (fun g => ?_)
  · conv => whnf
    refine EvCall.retQ0 (ahead_ok h (Fr.refl _ _) (xs := []) Own.nil (by simp [Value.ownBlock]) 31 (by simp; omega)) fun v w2 hq => ?_
    have ls2 := len_ahead 31 [] s1
    obtain ⟨s2, qs2⟩ : ∃ z, z = aheadM 31 [] s1 := ⟨_, rfl⟩
    rw [← qs2] at hq ls2
    try simp only [List.length_nil, List.length_cons] at ls2
    obtain ⟨ho1, tfx, hx⟩ := hq
    obtain ⟨rmA, raA, rfl, ho2⟩ := ho1.at_
    replace hl := hl.tf tfx
    try replace hB4 := hB4.tf tfx hr4k (.inr (by decide))
    try replace hoA := hoA.tf h tfx
    try replace hoB := hoB.tf h tfx
    have hoA := ho2
    clear ho1 ho2
    replace tf := tf.trans tfx
    clear h
    have h := hx
    clear hx tfx
    conv => whnf
    refine EvIdx.ints hl.ints (by omega) (by omega) rfl rfl fun a ha => ?_
    conv => whnf
    refine EvLd.ints hl.ints ha kd1.pl ?_
    conv => whnf
    refine EvCall.retQ0 (ihN _ _ _ _ kd1.at_ hp' h (by omega) (by omega)) fun v w2 hq => ?_
    rw [← kd1.em] at hq
    have ls3 := kd1.gr s2
    obtain ⟨s3, qs3⟩ : ∃ z, z = nthM (ems E.P ks) 1 s2 := ⟨_, rfl⟩
    rw [← qs3] at hq ls3
    obtain ⟨rfl, tfx, hx⟩ := hq
    replace hl := hl.tf tfx
    try replace hB4 := hB4.tf tfx hr4k (.inr (by decide))
    try replace hoA := hoA.tf h tfx
    try replace hoB := hoB.tf h tfx
    replace tf := tf.trans tfx
    clear h
    have h := hx
    clear hx tfx
    conv => whnf
    refine EvIf.lt (fun g3 => ?_) (fun g3 => ?_)
    · conv => whnf
      refine EvCall.retQ0 (hoA.here h (by omega)) fun v w2 hq => ?_
      have ls4 := len_here (holeM s2) s3
      obtain ⟨s4, qs4⟩ : ∃ z, z = hereM (holeM s2) s3 := ⟨_, rfl⟩
      rw [← qs4] at hq ls4
      try simp only [List.length_nil, List.length_cons] at ls4
      obtain ⟨rfl, tfx, hx⟩ := hq
      replace hl := hl.tf tfx
      try replace hB4 := hB4.tf tfx hr4k (.inr (by decide))
      try replace hoA := hoA.tf h tfx
      try replace hoB := hoB.tf h tfx
      replace tf := tf.trans tfx
      clear h
      have h := hx
      clear hx tfx
      conv => whnf
      refine ⟨rfl, tf, ?_⟩
      subst qs4 qs3
      try subst qs2b
      subst qs2 qs1
      show MK E (if (ems E.P ks).length < 3 then hereM (holeM (if x.op = 13 then _ else _)) (nthM (ems E.P ks) 1 (if x.op = 13 then _ else _)) else _) _
      rw [if_pos (by rw [ems_length]; omega), if_pos g, if_pos g]
      exact h
    · conv => whnf
      obtain ⟨p2, hp2', hp2⟩ := hw2 (by omega)
      have hl2 := (List.getElem?_eq_some_iff.1 hp2').1
      rw [wfs_length] at hl2
      obtain ⟨p2', y2, k2, kd2, e2⟩ := kid_of (E := E) hfo hl2
      rw [hp2'] at e2; injection e2 with e2; subst e2
      have hz012 := kids_three kd0.sz kd1.sz kd2.sz
      refine EvCall.retQ0 (ahead_ok h (Fr.refl _ _) (xs := []) Own.nil (by simp [Value.ownBlock]) 30 (by simp; omega)) fun v w2 hq => ?_
      have ls4 := len_ahead 30 [] s3
      obtain ⟨s4, qs4⟩ : ∃ z, z = aheadM 30 [] s3 := ⟨_, rfl⟩
      rw [← qs4] at hq ls4
      try simp only [List.length_nil, List.length_cons] at ls4
      obtain ⟨ho1, tfx, hx⟩ := hq
      obtain ⟨rmB, raB, rfl, ho2⟩ := ho1.at_
      replace hl := hl.tf tfx
      try replace hB4 := hB4.tf tfx hr4k (.inr (by decide))
      try replace hoA := hoA.tf h tfx
      try replace hoB := hoB.tf h tfx
      have hoB := ho2
      clear ho1 ho2
      replace tf := tf.trans tfx
      clear h
      have h := hx
      clear hx tfx
      conv => whnf
      refine EvCall.retQ0 (hoA.here h (by omega)) fun v w2 hq => ?_
      have ls5 := len_here (holeM s2) s4
      obtain ⟨s5, qs5⟩ : ∃ z, z = hereM (holeM s2) s4 := ⟨_, rfl⟩
      rw [← qs5] at hq ls5
      try simp only [List.length_nil, List.length_cons] at ls5
      obtain ⟨rfl, tfx, hx⟩ := hq
      replace hl := hl.tf tfx
      try replace hB4 := hB4.tf tfx hr4k (.inr (by decide))
      try replace hoA := hoA.tf h tfx
      try replace hoB := hoB.tf h tfx
      replace tf := tf.trans tfx
      clear h
      have h := hx
      clear hx tfx
      conv => whnf
      refine EvIdx.ints hl.ints (by omega) (by omega) rfl rfl fun a ha => ?_
      conv => whnf
      refine EvLd.ints hl.ints ha kd2.pl ?_
      conv => whnf
      refine EvCall.retQ0 (ihN _ _ _ _ kd2.at_ hp2 h (by omega) (by omega)) fun v w2 hq => ?_
      rw [← kd2.em] at hq
      have ls6 := kd2.gr s5
      obtain ⟨s6, qs6⟩ : ∃ z, z = nthM (ems E.P ks) 2 s5 := ⟨_, rfl⟩
      rw [← qs6] at hq ls6
      obtain ⟨rfl, tfx, hx⟩ := hq
      replace hl := hl.tf tfx
      try replace hB4 := hB4.tf tfx hr4k (.inr (by decide))
      try replace hoA := hoA.tf h tfx
      try replace hoB := hoB.tf h tfx
      replace tf := tf.trans tfx
      clear h
      have h := hx
      clear hx tfx
      conv => whnf
      refine EvCall.retQ0 (hoB.here h (by omega)) fun v w2 hq => ?_
      have ls7 := len_here (holeM s4) s6
      obtain ⟨s7, qs7⟩ : ∃ z, z = hereM (holeM s4) s6 := ⟨_, rfl⟩
      rw [← qs7] at hq ls7
      try simp only [List.length_nil, List.length_cons] at ls7
      obtain ⟨rfl, tfx, hx⟩ := hq
      replace hl := hl.tf tfx
      try replace hB4 := hB4.tf tfx hr4k (.inr (by decide))
      try replace hoA := hoA.tf h tfx
      try replace hoB := hoB.tf h tfx
      replace tf := tf.trans tfx
      clear h
      have h := hx
      clear hx tfx
      conv => whnf
      refine ⟨rfl, tf, ?_⟩
      subst qs7 qs6 qs5 qs4 qs3
      try subst qs2b
      subst qs2 qs1
      show MK E (if (ems E.P ks).length < 3 then _ else hereM _ (nthM (ems E.P ks) 2 (hereM (holeM (if x.op = 13 then _ else _)) (aheadM 30 [] (nthM (ems E.P ks) 1 (if x.op = 13 then _ else _)))))) _
      rw [if_neg (by rw [ems_length]; omega), if_pos g, if_pos g]
      exact h
  · conv => whnf
    refine EvCall.retQ0 (ahead_ok h (Fr.refl _ _) (xs := []) Own.nil (by simp [Value.ownBlock]) 33 (by simp; omega)) fun v w2 hq => ?_
    have ls2 := len_ahead 33 [] s1
    obtain ⟨s2, qs2⟩ : ∃ z, z = aheadM 33 [] s1 := ⟨_, rfl⟩
    rw [← qs2] at hq ls2
    try simp only [List.length_nil, List.length_cons] at ls2
    obtain ⟨ho1, tfx, hx⟩ := hq
    obtain ⟨rmA, raA, rfl, ho2⟩ := ho1.at_
    replace hl := hl.tf tfx
    try replace hB4 := hB4.tf tfx hr4k (.inr (by decide))
    try replace hoA := hoA.tf h tfx
    try replace hoB := hoB.tf h tfx
    have hoA := ho2
    clear ho1 ho2
    replace tf := tf.trans tfx
    clear h
    have h := hx
    clear hx tfx
    conv => whnf
    refine EvLd.blk hB4 rfl ?_
    conv => whnf
    refine ⟨?_⟩
    conv => whnf
    refine EvNew.blk fun rx wx hrx hzx hFx hBx => ?_
    conv => whnf
    have hBx' : HB wx rx 5 (([u8 x.n] : List Int).map fun x => .int .u8 x) := hBx
    refine EvCall.retQ0 (op_ok h hFx (XsAt.blk hBx' (by omega) rfl) 5 (by simp; omega)) fun v w2 hq => ?_
    have ls2b := len_op 5 ([u8 x.n]) s2
    obtain ⟨s2b, qs2b⟩ : ∃ z, z = opM 5 [u8 x.n] s2 := ⟨_, rfl⟩
    rw [← qs2b] at hq ls2b
    try simp only [List.length_nil, List.length_cons] at ls2b
    replace hl := hl.fr0 hFx
    try replace hB4 := hB4.fr0 hFx
    try replace hoA := hoA.fr0 hFx
    try replace hoB := hoB.fr0 hFx
    replace tf := tf.trans (TF.fr0 hFx)
    replace h := h.fr0 hFx
    obtain ⟨rfl, tfx, hx⟩ := hq
    replace hl := hl.tf tfx
    try replace hB4 := hB4.tf tfx hr4k (.inr (by decide))
    try replace hoA := hoA.tf h tfx
    try replace hoB := hoB.tf h tfx
    replace tf := tf.trans tfx
    clear h
    have h := hx
    clear hx tfx
    conv => whnf
    refine EvIdx.ints hl.ints (by omega) (by omega) rfl rfl fun a ha => ?_
    conv => whnf
    refine EvLd.ints hl.ints ha kd1.pl ?_
    conv => whnf
    refine EvCall.retQ0 (ihN _ _ _ _ kd1.at_ hp' h (by omega) (by omega)) fun v w2 hq => ?_
    rw [← kd1.em] at hq
    have ls3 := kd1.gr s2b
    obtain ⟨s3, qs3⟩ : ∃ z, z = nthM (ems E.P ks) 1 s2b := ⟨_, rfl⟩
    rw [← qs3] at hq ls3
    obtain ⟨rfl, tfx, hx⟩ := hq
    replace hl := hl.tf tfx
    try replace hB4 := hB4.tf tfx hr4k (.inr (by decide))
    try replace hoA := hoA.tf h tfx
    try replace hoB := hoB.tf h tfx
    replace tf := tf.trans tfx
    clear h
    have h := hx
    clear hx tfx
    conv => whnf
    refine EvIf.lt (fun g3 => ?_) (fun g3 => ?_)
    · conv => whnf
      refine EvCall.retQ0 (hoA.here h (by omega)) fun v w2 hq => ?_
      have ls4 := len_here (holeM s2) s3
      obtain ⟨s4, qs4⟩ : ∃ z, z = hereM (holeM s2) s3 := ⟨_, rfl⟩
      rw [← qs4] at hq ls4
      try simp only [List.length_nil, List.length_cons] at ls4
      obtain ⟨rfl, tfx, hx⟩ := hq
      replace hl := hl.tf tfx
      try replace hB4 := hB4.tf tfx hr4k (.inr (by decide))
      try replace hoA := hoA.tf h tfx
      try replace hoB := hoB.tf h tfx
      replace tf := tf.trans tfx
      clear h
      have h := hx
      clear hx tfx
      conv => whnf
      refine ⟨rfl, tf, ?_⟩
      subst qs4 qs3
      try subst qs2b
      subst qs2 qs1
      show MK E (if (ems E.P ks).length < 3 then hereM (holeM (if x.op = 13 then _ else _)) (nthM (ems E.P ks) 1 (if x.op = 13 then _ else _)) else _) _
      rw [if_pos (by rw [ems_length]; omega), if_neg g, if_neg g]
      exact h
    · conv => whnf
      obtain ⟨p2, hp2', hp2⟩ := hw2 (by omega)
      have hl2 := (List.getElem?_eq_some_iff.1 hp2').1
      rw [wfs_length] at hl2
      obtain ⟨p2', y2, k2, kd2, e2⟩ := kid_of (E := E) hfo hl2
      rw [hp2'] at e2; injection e2 with e2; subst e2
      have hz012 := kids_three kd0.sz kd1.sz kd2.sz
      refine EvCall.retQ0 (ahead_ok h (Fr.refl _ _) (xs := []) Own.nil (by simp [Value.ownBlock]) 30 (by simp; omega)) fun v w2 hq => ?_
      have ls4 := len_ahead 30 [] s3
      obtain ⟨s4, qs4⟩ : ∃ z, z = aheadM 30 [] s3 := ⟨_, rfl⟩
      rw [← qs4] at hq ls4
      try simp only [List.length_nil, List.length_cons] at ls4
      obtain ⟨ho1, tfx, hx⟩ := hq
      obtain ⟨rmB, raB, rfl, ho2⟩ := ho1.at_
      replace hl := hl.tf tfx
      try replace hB4 := hB4.tf tfx hr4k (.inr (by decide))
      try replace hoA := hoA.tf h tfx
      try replace hoB := hoB.tf h tfx
      have hoB := ho2
      clear ho1 ho2
      replace tf := tf.trans tfx
      clear h
      have h := hx
      clear hx tfx
      conv => whnf
      refine EvCall.retQ0 (hoA.here h (by omega)) fun v w2 hq => ?_
      have ls5 := len_here (holeM s2) s4
      obtain ⟨s5, qs5⟩ : ∃ z, z = hereM (holeM s2) s4 := ⟨_, rfl⟩
      rw [← qs5] at hq ls5
      try simp only [List.length_nil, List.length_cons] at ls5
      obtain ⟨rfl, tfx, hx⟩ := hq
      replace hl := hl.tf tfx
      try replace hB4 := hB4.tf tfx hr4k (.inr (by decide))
      try replace hoA := hoA.tf h tfx
      try replace hoB := hoB.tf h tfx
      replace tf := tf.trans tfx
      clear h
      have h := hx
      clear hx tfx
      conv => whnf
      refine EvIdx.ints hl.ints (by omega) (by omega) rfl rfl fun a ha => ?_
      conv => whnf
      refine EvLd.ints hl.ints ha kd2.pl ?_
      conv => whnf
      refine EvCall.retQ0 (ihN _ _ _ _ kd2.at_ hp2 h (by omega) (by omega)) fun v w2 hq => ?_
      rw [← kd2.em] at hq
      have ls6 := kd2.gr s5
      obtain ⟨s6, qs6⟩ : ∃ z, z = nthM (ems E.P ks) 2 s5 := ⟨_, rfl⟩
      rw [← qs6] at hq ls6
      obtain ⟨rfl, tfx, hx⟩ := hq
      replace hl := hl.tf tfx
      try replace hB4 := hB4.tf tfx hr4k (.inr (by decide))
      try replace hoA := hoA.tf h tfx
      try replace hoB := hoB.tf h tfx
      replace tf := tf.trans tfx
      clear h
      have h := hx
      clear hx tfx
      conv => whnf
      refine EvCall.retQ0 (hoB.here h (by omega)) fun v w2 hq => ?_
      have ls7 := len_here (holeM s4) s6
      obtain ⟨s7, qs7⟩ : ∃ z, z = hereM (holeM s4) s6 := ⟨_, rfl⟩
      rw [← qs7] at hq ls7
      try simp only [List.length_nil, List.length_cons] at ls7
      obtain ⟨rfl, tfx, hx⟩ := hq
      replace hl := hl.tf tfx
      try replace hB4 := hB4.tf tfx hr4k (.inr (by decide))
      try replace hoA := hoA.tf h tfx
      try replace hoB := hoB.tf h tfx
      replace tf := tf.trans tfx
      clear h
      have h := hx
      clear hx tfx
      conv => whnf
      refine ⟨rfl, tf, ?_⟩
      subst qs7 qs6 qs5 qs4 qs3
      try subst qs2b
      subst qs2 qs1
      show MK E (if (ems E.P ks).length < 3 then _ else hereM _ (nthM (ems E.P ks) 2 (hereM (holeM (if x.op = 13 then _ else _)) (aheadM 30 [] (nthM (ems E.P ks) 1 (if x.op = 13 then _ else _)))))) _
      rw [if_neg (by rw [ems_length]; omega), if_neg g, if_neg g]
      exact h

theorem repeat_ok (hfo : FoAt E.t i (.cons x ks r)) (ihN : KidsOk E i ks) (hw : ∀ p ∈ wfs ks, p) : HOk 62 E i x ks [] (repeatM E.P x (ems E.P ks)) := by
  intro s w lA lc h hl hb hb2
  refine fn_goQ (cx_ok 55 [4]) wideOrders Tryz.func62 rfl rfl Tryz.call62 (by simp [cx]) ?_; conv => whnf
  have hlen := kids_len hfo
  refine EvNew.blk fun r4 w1 hr4 hz4 hF1 hB4 => ?_
  have hr4k : r4 ∉ [E.kb] := by obtain ⟨_, _, _, hm⟩ := h.me; have := hm.blk.lt; simp; omega
  replace hl := hl.fr0 hF1
  replace h := h.fr0 hF1
  have tf : TM E w w1 := TF.fr0 hF1
  conv => whnf
  refine EvLd.blk hB4 rfl ?_
  conv => whnf
  refine ⟨?_⟩
  conv => whnf
  refine EvCall.retQ0 (push_ok h 0 (by omega)) fun v w2 hq => ?_
  have ls1 := len_push E.P 0 s
  obtain ⟨s1, qs1⟩ : ∃ z, z = pushM E.P 0 s := ⟨_, rfl⟩
  rw [← qs1] at hq ls1
  try simp only [List.length_nil, List.length_cons] at ls1
  obtain ⟨rfl, tfx, hx⟩ := hq
  replace hl := hl.tf tfx
  try replace hB4 := hB4.tf tfx hr4k (.inr (by decide))
  try replace hoA := hoA.tf h tfx
  try replace hoB := hoB.tf h tfx
  replace tf := tf.trans tfx
  clear h
  have h := hx
  clear hx tfx
  conv => whnf
  refine EvNew.blk fun rx wx hrx hzx hFx hBx => ?_
  conv => whnf
  have hBx' : HB wx rx 5 (([u8 x.m] : List Int).map fun x => .int .u8 x) := hBx
  refine EvCall.retQ0 (op_ok h hFx (XsAt.blk hBx' (by omega) rfl) 5 (by simp; omega)) fun v w2 hq => ?_
  have ls2 := len_op 5 ([u8 x.m]) s1
  obtain ⟨s2, qs2⟩ : ∃ z, z = opM 5 [u8 x.m] s1 := ⟨_, rfl⟩
  rw [← qs2] at hq ls2
  try simp only [List.length_nil, List.length_cons] at ls2
  replace hl := hl.fr0 hFx
  try replace hB4 := hB4.fr0 hFx
  try replace hoA := hoA.fr0 hFx
  try replace hoB := hoB.fr0 hFx
  replace tf := tf.trans (TF.fr0 hFx)
  replace h := h.fr0 hFx
  obtain ⟨rfl, tfx, hx⟩ := hq
  replace hl := hl.tf tfx
  try replace hB4 := hB4.tf tfx hr4k (.inr (by decide))
  try replace hoA := hoA.tf h tfx
  try replace hoB := hoB.tf h tfx
  replace tf := tf.trans tfx
  clear h
  have h := hx
  clear hx tfx
  conv => whnf
  obtain ⟨bv, lv, lvs, hm⟩ := h.me
  refine EvLd.blk hm.blk rfl ?_
  obtain ⟨bA, bc, rfl, _⟩ := hm.bo.form
  conv => whnf
  clear hm
  refine EvNew.blk fun rx wx hrx hzx hFx hBx => ?_
  conv => whnf
  have hBx' : HB wx rx 5 (([u8 x.m] : List Int).map fun x => .int .u8 x) := hBx
  refine EvCall.retQ0 (op_ok h hFx (XsAt.blk hBx' (by omega) rfl) 4 (by simp; omega)) fun v w2 hq => ?_
  have ls3 := len_op 4 ([u8 x.m]) s2
  obtain ⟨s3, qs3⟩ : ∃ z, z = opM 4 [u8 x.m] s2 := ⟨_, rfl⟩
  rw [← qs3] at hq ls3
  try simp only [List.length_nil, List.length_cons] at ls3
  replace hl := hl.fr0 hFx
  try replace hB4 := hB4.fr0 hFx
  try replace hoA := hoA.fr0 hFx
  try replace hoB := hoB.fr0 hFx
  replace tf := tf.trans (TF.fr0 hFx)
  replace h := h.fr0 hFx
  obtain ⟨rfl, tfx, hx⟩ := hq
  replace hl := hl.tf tfx
  try replace hB4 := hB4.tf tfx hr4k (.inr (by decide))
  try replace hoA := hoA.tf h tfx
  try replace hoB := hoB.tf h tfx
  replace tf := tf.trans tfx
  clear h
  have h := hx
  clear hx tfx
  conv => whnf
  refine EvLd.blk hB4 rfl ?_
  conv => whnf
  refine EvCall.retQ0 (push_ok h x.n (by omega)) fun v w2 hq => ?_
  have ls4 := len_push E.P x.n s3
  obtain ⟨s4, qs4⟩ : ∃ z, z = pushM E.P x.n s3 := ⟨_, rfl⟩
  rw [← qs4] at hq ls4
  try simp only [List.length_nil, List.length_cons] at ls4
  obtain ⟨rfl, tfx, hx⟩ := hq
  replace hl := hl.tf tfx
  try replace hB4 := hB4.tf tfx hr4k (.inr (by decide))
  try replace hoA := hoA.tf h tfx
  try replace hoB := hoB.tf h tfx
  replace tf := tf.trans tfx
  clear h
  have h := hx
  clear hx tfx
  conv => whnf
  refine EvCall.retQ0 (op_ok h (Fr.refl _ _) (XsAt.nil _ _) 19 (by simp; omega)) fun v w2 hq => ?_
  have ls5 := len_op 19 [] s4
  obtain ⟨s5, qs5⟩ : ∃ z, z = opM 19 [] s4 := ⟨_, rfl⟩
  rw [← qs5] at hq ls5
  try simp only [List.length_nil, List.length_cons] at ls5
  obtain ⟨rfl, tfx, hx⟩ := hq
  replace hl := hl.tf tfx
  try replace hB4 := hB4.tf tfx hr4k (.inr (by decide))
  try replace hoA := hoA.tf h tfx
  try replace hoB := hoB.tf h tfx
  replace tf := tf.trans tfx
  clear h
  have h := hx
  clear hx tfx
  conv => whnf
  refine EvCall.retQ0 (ahead_ok h (Fr.refl _ _) (xs := []) Own.nil (by simp [Value.ownBlock]) 31 (by simp; omega)) fun v w2 hq => ?_
  have ls6 := len_ahead 31 [] s5
  obtain ⟨s6, qs6⟩ : ∃ z, z = aheadM 31 [] s5 := ⟨_, rfl⟩
  rw [← qs6] at hq ls6
  try simp only [List.length_nil, List.length_cons] at ls6
  obtain ⟨ho1, tfx, hx⟩ := hq
  obtain ⟨rmA, raA, rfl, ho2⟩ := ho1.at_
  replace hl := hl.tf tfx
  try replace hB4 := hB4.tf tfx hr4k (.inr (by decide))
  try replace hoA := hoA.tf h tfx
  try replace hoB := hoB.tf h tfx
  have hoA := ho2
  clear ho1 ho2
  replace tf := tf.trans tfx
  clear h
  have h := hx
  clear hx tfx
  conv => whnf
  refine EvCall.retQ0 (nodes_ok hfo ihN hw h hl (by omega) (by omega)) fun v w2 hq => ?_
  have ls7 := seq_gr (ems_gr E.P ks) s6
  rw [szs_sum] at ls7
  obtain ⟨s7, qs7⟩ : ∃ z, z = seqM (ems E.P ks) s6 := ⟨_, rfl⟩
  rw [← qs7] at hq ls7
  obtain ⟨rfl, tfx, hx⟩ := hq
  replace hl := hl.tf tfx
  try replace hB4 := hB4.tf tfx hr4k (.inr (by decide))
  try replace hoA := hoA.tf h tfx
  try replace hoB := hoB.tf h tfx
  replace tf := tf.trans tfx
  clear h
  have h := hx
  clear hx tfx
  conv => whnf
  refine EvNew.blk fun rx wx hrx hzx hFx hBx => ?_
  conv => whnf
  have hBx' : HB wx rx 5 (([u8 x.m] : List Int).map fun x => .int .u8 x) := hBx
  refine EvCall.retQ0 (op_ok h hFx (XsAt.blk hBx' (by omega) rfl) 4 (by simp; omega)) fun v w2 hq => ?_
  have ls8 := len_op 4 ([u8 x.m]) s7
  obtain ⟨s8, qs8⟩ : ∃ z, z = opM 4 [u8 x.m] s7 := ⟨_, rfl⟩
  rw [← qs8] at hq ls8
  try simp only [List.length_nil, List.length_cons] at ls8
  replace hl := hl.fr0 hFx
  try replace hB4 := hB4.fr0 hFx
  try replace hoA := hoA.fr0 hFx
  try replace hoB := hoB.fr0 hFx
  replace tf := tf.trans (TF.fr0 hFx)
  replace h := h.fr0 hFx
  obtain ⟨rfl, tfx, hx⟩ := hq
  replace hl := hl.tf tfx
  try replace hB4 := hB4.tf tfx hr4k (.inr (by decide))
  try replace hoA := hoA.tf h tfx
  try replace hoB := hoB.tf h tfx
  replace tf := tf.trans tfx
  clear h
  have h := hx
  clear hx tfx
  conv => whnf
  refine EvCall.retQ0 (push_ok h 1 (by omega)) fun v w2 hq => ?_
  have ls9 := len_push E.P 1 s8
  obtain ⟨s9, qs9⟩ : ∃ z, z = pushM E.P 1 s8 := ⟨_, rfl⟩
  rw [← qs9] at hq ls9
  try simp only [List.length_nil, List.length_cons] at ls9
  obtain ⟨rfl, tfx, hx⟩ := hq
  replace hl := hl.tf tfx
  try replace hB4 := hB4.tf tfx hr4k (.inr (by decide))
  try replace hoA := hoA.tf h tfx
  try replace hoB := hoB.tf h tfx
  replace tf := tf.trans tfx
  clear h
  have h := hx
  clear hx tfx
  conv => whnf
  refine EvCall.retQ0 (op_ok h (Fr.refl _ _) (XsAt.nil _ _) 10 (by simp; omega)) fun v w2 hq => ?_
  have ls10 := len_op 10 [] s9
  obtain ⟨s10, qs10⟩ : ∃ z, z = opM 10 [] s9 := ⟨_, rfl⟩
  rw [← qs10] at hq ls10
  try simp only [List.length_nil, List.length_cons] at ls10
  obtain ⟨rfl, tfx, hx⟩ := hq
  replace hl := hl.tf tfx
  try replace hB4 := hB4.tf tfx hr4k (.inr (by decide))
  try replace hoA := hoA.tf h tfx
  try replace hoB := hoB.tf h tfx
  replace tf := tf.trans tfx
  clear h
  have h := hx
  clear hx tfx
  conv => whnf
  refine EvNew.blk fun rx wx hrx hzx hFx hBx => ?_
  conv => whnf
  have hBx' : HB wx rx 5 (([u8 x.m] : List Int).map fun x => .int .u8 x) := hBx
  refine EvCall.retQ0 (op_ok h hFx (XsAt.blk hBx' (by omega) rfl) 5 (by simp; omega)) fun v w2 hq => ?_
  have ls11 := len_op 5 ([u8 x.m]) s10
  obtain ⟨s11, qs11⟩ : ∃ z, z = opM 5 [u8 x.m] s10 := ⟨_, rfl⟩
  rw [← qs11] at hq ls11
  try simp only [List.length_nil, List.length_cons] at ls11
  replace hl := hl.fr0 hFx
  try replace hB4 := hB4.fr0 hFx
  try replace hoA := hoA.fr0 hFx
  try replace hoB := hoB.fr0 hFx
  replace tf := tf.trans (TF.fr0 hFx)
  replace h := h.fr0 hFx
  obtain ⟨rfl, tfx, hx⟩ := hq
  replace hl := hl.tf tfx
  try replace hB4 := hB4.tf tfx hr4k (.inr (by decide))
  try replace hoA := hoA.tf h tfx
  try replace hoB := hoB.tf h tfx
  replace tf := tf.trans tfx
  clear h
  have h := hx
  clear hx tfx
  conv => whnf
  refine EvCall.retQ0 (wide_ok h 30 (s2.b.length : Int) (by omega)) fun v w2 hq => ?_
  have ls12 := len_wide 30 (s2.b.length : Int) s11
  obtain ⟨s12, qs12⟩ : ∃ z, z = wideM 30 (s2.b.length : Int) s11 := ⟨_, rfl⟩
  rw [← qs12] at hq ls12
  try simp only [List.length_nil, List.length_cons] at ls12
  obtain ⟨rfl, tfx, hx⟩ := hq
  replace hl := hl.tf tfx
  try replace hB4 := hB4.tf tfx hr4k (.inr (by decide))
  try replace hoA := hoA.tf h tfx
  try replace hoB := hoB.tf h tfx
  replace tf := tf.trans tfx
  clear h
  have h := hx
  clear hx tfx
  conv => whnf
  refine EvCall.retQ0 (hoA.here h (by omega)) fun v w2 hq => ?_
  have ls13 := len_here (holeM s6) s12
  obtain ⟨s13, qs13⟩ : ∃ z, z = hereM (holeM s6) s12 := ⟨_, rfl⟩
  rw [← qs13] at hq ls13
  try simp only [List.length_nil, List.length_cons] at ls13
  obtain ⟨rfl, tfx, hx⟩ := hq
  replace hl := hl.tf tfx
  try replace hB4 := hB4.tf tfx hr4k (.inr (by decide))
  try replace hoA := hoA.tf h tfx
  try replace hoB := hoB.tf h tfx
  replace tf := tf.trans tfx
  clear h
  have h := hx
  clear hx tfx
  conv => whnf
  subst qs13 qs12 qs11 qs10 qs9 qs8 qs7 qs6 qs5 qs4 qs3 qs2 qs1
  exact ⟨rfl, tf, h⟩

theorem each_ok (hfo : FoAt E.t i (.cons x ks r)) (ihN : KidsOk E i ks) (hw : AtW ks 0) (hw1 : AtW ks 1) : HOk 63 E i x ks [] (eachM E.P x (ems E.P ks)) := by
  intro s w lA lc h hl hb hb2
  obtain ⟨p, hp0, hp⟩ := hw
  obtain ⟨p', hp0', hp'⟩ := hw1
  have hl0 := (List.getElem?_eq_some_iff.1 hp0).1
  have hl1 := (List.getElem?_eq_some_iff.1 hp0').1
  rw [wfs_length] at hl0 hl1
  obtain ⟨p0, y0, k0, kd0, e0⟩ := kid_of hfo hl0
  obtain ⟨p1, y1, k1, kd1, e1⟩ := kid_of hfo hl1
  rw [hp0] at e0; injection e0 with e0; subst e0
  rw [hp0'] at e1; injection e1 with e1; subst e1
  have hz01 := kids_two kd0.sz kd1.sz
  refine fn_goQ (cx_ok 57 [4]) wideOrders Tryz.func63 rfl rfl Tryz.call63 (by simp [cx]) ?_; conv => whnf
  have hlen := kids_len hfo
  refine EvNew.blk fun r4 w1 hr4 hz4 hF1 hB4 => ?_
  have hr4k : r4 ∉ [E.kb] := by obtain ⟨_, _, _, hm⟩ := h.me; have := hm.blk.lt; simp; omega
  replace hl := hl.fr0 hF1
  replace h := h.fr0 hF1
  have tf : TM E w w1 := TF.fr0 hF1
  conv => whnf
  refine EvLd.blk hB4 rfl ?_
  conv => whnf
  refine ⟨?_⟩
  conv => whnf
  refine EvCall.retQ0 (number_ok h 1) fun v w2 hq => ?_
  have ls0 := len_need (E.P.ints 1) s
  obtain ⟨s0, qs0⟩ : ∃ z, z = needM (E.P.ints 1) s := ⟨_, rfl⟩
  rw [← qs0] at hq ls0
  try simp only [List.length_nil, List.length_cons] at ls0
  obtain ⟨rfl, tfx, hx⟩ := hq
  replace hl := hl.tf tfx
  try replace hB4 := hB4.tf tfx hr4k (.inr (by decide))
  try replace hoA := hoA.tf h tfx
  try replace hoB := hoB.tf h tfx
  replace tf := tf.trans tfx
  clear h
  have h := hx
  clear hx tfx
  conv => whnf
  refine EvIdx.ints hl.ints (by omega) (by omega) rfl rfl fun a ha => ?_
  conv => whnf
  refine EvLd.ints hl.ints ha kd0.pl ?_
  conv => whnf
  refine EvCall.retQ0 (ihN _ _ _ _ kd0.at_ hp h (by omega) (by omega)) fun v w2 hq => ?_
  rw [← kd0.em] at hq
  have ls1 := kd0.gr s0
  obtain ⟨s1, qs1⟩ : ∃ z, z = nthM (ems E.P ks) 0 s0 := ⟨_, rfl⟩
  rw [← qs1] at hq ls1
  obtain ⟨rfl, tfx, hx⟩ := hq
  replace hl := hl.tf tfx
  try replace hB4 := hB4.tf tfx hr4k (.inr (by decide))
  try replace hoA := hoA.tf h tfx
  try replace hoB := hoB.tf h tfx
  replace tf := tf.trans tfx
  clear h
  have h := hx
  clear hx tfx
  conv => whnf
  refine EvNew.blk fun rx wx hrx hzx hFx hBx => ?_
  conv => whnf
  have hBx' : HB wx rx 5 (([u8 x.m] : List Int).map fun x => .int .u8 x) := hBx
  refine EvCall.retQ0 (op_ok h hFx (XsAt.blk hBx' (by omega) rfl) 5 (by simp; omega)) fun v w2 hq => ?_
  have ls2 := len_op 5 ([u8 x.m]) s1
  obtain ⟨s2, qs2⟩ : ∃ z, z = opM 5 [u8 x.m] s1 := ⟨_, rfl⟩
  rw [← qs2] at hq ls2
  try simp only [List.length_nil, List.length_cons] at ls2
  replace hl := hl.fr0 hFx
  try replace hB4 := hB4.fr0 hFx
  try replace hoA := hoA.fr0 hFx
  try replace hoB := hoB.fr0 hFx
  replace tf := tf.trans (TF.fr0 hFx)
  replace h := h.fr0 hFx
  obtain ⟨rfl, tfx, hx⟩ := hq
  replace hl := hl.tf tfx
  try replace hB4 := hB4.tf tfx hr4k (.inr (by decide))
  try replace hoA := hoA.tf h tfx
  try replace hoB := hoB.tf h tfx
  replace tf := tf.trans tfx
  clear h
  have h := hx
  clear hx tfx
  conv => whnf
  refine EvCall.retQ0 (push_ok h 0 (by omega)) fun v w2 hq => ?_
  have ls3 := len_push E.P 0 s2
  obtain ⟨s3, qs3⟩ : ∃ z, z = pushM E.P 0 s2 := ⟨_, rfl⟩
  rw [← qs3] at hq ls3
  try simp only [List.length_nil, List.length_cons] at ls3
  obtain ⟨rfl, tfx, hx⟩ := hq
  replace hl := hl.tf tfx
  try replace hB4 := hB4.tf tfx hr4k (.inr (by decide))
  try replace hoA := hoA.tf h tfx
  try replace hoB := hoB.tf h tfx
  replace tf := tf.trans tfx
  clear h
  have h := hx
  clear hx tfx
  conv => whnf
  refine ⟨?_⟩
  conv => whnf
  refine EvNew.blk fun rx wx hrx hzx hFx hBx => ?_
  conv => whnf
  have hBx' : HB wx rx 5 (([u8 (u8 x.m + 1)] : List Int).map fun x => .int .u8 x) := hBx
  refine EvCall.retQ0 (op_ok h hFx (XsAt.blk hBx' (by omega) rfl) 5 (by simp; omega)) fun v w2 hq => ?_
  have ls4 := len_op 5 ([u8 (u8 x.m + 1)]) s3
  obtain ⟨s4, qs4⟩ : ∃ z, z = opM 5 [u8 (u8 x.m + 1)] s3 := ⟨_, rfl⟩
  rw [← qs4] at hq ls4
  try simp only [List.length_nil, List.length_cons] at ls4
  replace hl := hl.fr0 hFx
  try replace hB4 := hB4.fr0 hFx
  try replace hoA := hoA.fr0 hFx
  try replace hoB := hoB.fr0 hFx
  replace tf := tf.trans (TF.fr0 hFx)
  replace h := h.fr0 hFx
  obtain ⟨rfl, tfx, hx⟩ := hq
  replace hl := hl.tf tfx
  try replace hB4 := hB4.tf tfx hr4k (.inr (by decide))
  try replace hoA := hoA.tf h tfx
  try replace hoB := hoB.tf h tfx
  replace tf := tf.trans tfx
  clear h
  have h := hx
  clear hx tfx
  conv => whnf
  obtain ⟨bv, lv, lvs, hm⟩ := h.me
  refine EvLd.blk hm.blk rfl ?_
  obtain ⟨bA, bc, rfl, _⟩ := hm.bo.form
  conv => whnf
  clear hm
  refine ⟨?_⟩
  conv => whnf
  refine EvNew.blk fun rx wx hrx hzx hFx hBx => ?_
  conv => whnf
  have hBx' : HB wx rx 5 (([u8 x.m, u8 (u8 x.m + 1)] : List Int).map fun x => .int .u8 x) := hBx
  refine EvCall.retQ0 (ahead_ok h hFx (xs := [u8 x.m, u8 (u8 x.m + 1)]) (HB.own hBx' (by simp) (by simp [maxLen])) (fun b hb => by have e : rx = b := (by simpa [Value.ownBlock] using hb); omega) 32 (by simp; omega)) fun v w2 hq => ?_
  have ls5 := len_ahead 32 [u8 x.m, u8 (u8 x.m + 1)] s4
  obtain ⟨s5, qs5⟩ : ∃ z, z = aheadM 32 [u8 x.m, u8 (u8 x.m + 1)] s4 := ⟨_, rfl⟩
  rw [← qs5] at hq ls5
  try simp only [List.length_nil, List.length_cons] at ls5
  obtain ⟨ho1, tfx, hx⟩ := hq
  obtain ⟨rmA, raA, rfl, hoA⟩ := ho1.at_
  replace hl := hl.fr0 hFx
  try replace hB4 := hB4.fr0 hFx
  try replace hoA := hoA.fr0 hFx
  try replace hoB := hoB.fr0 hFx
  replace tf := tf.trans (TF.fr0 hFx)
  replace h := h.fr0 hFx
  replace hl := hl.tf tfx
  replace hB4 := hB4.tf tfx hr4k (.inr (by decide))
  replace tf := tf.trans tfx
  clear h
  have h := hx
  clear hx tfx
  conv => whnf
  refine EvLd.blk hB4 rfl ?_
  conv => whnf
  refine ⟨?_⟩
  conv => whnf
  refine EvNew.blk fun rx wx hrx hzx hFx hBx => ?_
  conv => whnf
  have hBx' : HB wx rx 5 (([u8 x.n] : List Int).map fun x => .int .u8 x) := hBx
  refine EvCall.retQ0 (op_ok h hFx (XsAt.blk hBx' (by omega) rfl) 5 (by simp; omega)) fun v w2 hq => ?_
  have ls6 := len_op 5 ([u8 x.n]) s5
  obtain ⟨s6, qs6⟩ : ∃ z, z = opM 5 [u8 x.n] s5 := ⟨_, rfl⟩
  rw [← qs6] at hq ls6
  try simp only [List.length_nil, List.length_cons] at ls6
  replace hl := hl.fr0 hFx
  try replace hB4 := hB4.fr0 hFx
  try replace hoA := hoA.fr0 hFx
  try replace hoB := hoB.fr0 hFx
  replace tf := tf.trans (TF.fr0 hFx)
  replace h := h.fr0 hFx
  obtain ⟨rfl, tfx, hx⟩ := hq
  replace hl := hl.tf tfx
  try replace hB4 := hB4.tf tfx hr4k (.inr (by decide))
  try replace hoA := hoA.tf h tfx
  try replace hoB := hoB.tf h tfx
  replace tf := tf.trans tfx
  clear h
  have h := hx
  clear hx tfx
  conv => whnf
  refine EvIdx.ints hl.ints (by omega) (by omega) rfl rfl fun a ha => ?_
  conv => whnf
  refine EvLd.ints hl.ints ha kd1.pl ?_
  conv => whnf
  refine EvCall.retQ0 (ihN _ _ _ _ kd1.at_ hp' h (by omega) (by omega)) fun v w2 hq => ?_
  rw [← kd1.em] at hq
  have ls7 := kd1.gr s6
  obtain ⟨s7, qs7⟩ : ∃ z, z = nthM (ems E.P ks) 1 s6 := ⟨_, rfl⟩
  rw [← qs7] at hq ls7
  obtain ⟨rfl, tfx, hx⟩ := hq
  replace hl := hl.tf tfx
  try replace hB4 := hB4.tf tfx hr4k (.inr (by decide))
  try replace hoA := hoA.tf h tfx
  try replace hoB := hoB.tf h tfx
  replace tf := tf.trans tfx
  clear h
  have h := hx
  clear hx tfx
  conv => whnf
  refine EvCall.retQ0 (wide_ok h 30 (s4.b.length : Int) (by omega)) fun v w2 hq => ?_
  have ls8 := len_wide 30 (s4.b.length : Int) s7
  obtain ⟨s8, qs8⟩ : ∃ z, z = wideM 30 (s4.b.length : Int) s7 := ⟨_, rfl⟩
  rw [← qs8] at hq ls8
  try simp only [List.length_nil, List.length_cons] at ls8
  obtain ⟨rfl, tfx, hx⟩ := hq
  replace hl := hl.tf tfx
  try replace hB4 := hB4.tf tfx hr4k (.inr (by decide))
  try replace hoA := hoA.tf h tfx
  try replace hoB := hoB.tf h tfx
  replace tf := tf.trans tfx
  clear h
  have h := hx
  clear hx tfx
  conv => whnf
  refine EvCall.retQ0 (hoA.here h (by omega)) fun v w2 hq => ?_
  have ls9 := len_here (holeM s5) s8
  obtain ⟨s9, qs9⟩ : ∃ z, z = hereM (holeM s5) s8 := ⟨_, rfl⟩
  rw [← qs9] at hq ls9
  try simp only [List.length_nil, List.length_cons] at ls9
  obtain ⟨rfl, tfx, hx⟩ := hq
  replace hl := hl.tf tfx
  try replace hB4 := hB4.tf tfx hr4k (.inr (by decide))
  try replace hoA := hoA.tf h tfx
  try replace hoB := hoB.tf h tfx
  replace tf := tf.trans tfx
  clear h
  have h := hx
  clear hx tfx
  conv => whnf
  subst qs9 qs8 qs7 qs6 qs5 qs4 qs3 qs2 qs1 qs0
  exact ⟨rfl, tf, h⟩

theorem callC_get {n : Int} (h0 : 0 ≤ n) (h9 : n < 9) : (#[Value.int .u8 40, .int .u8 0, .int .u8 42, .int .u8 43, .int .u8 44, .int .u8 0, .int .u8 16, .int .u8 17, .int .u8 18] : Array Value).toList[n.toNat]? = some (.int .u8 (callC n)) := by
  obtain ⟨m, rfl⟩ : ∃ m : Nat, n = m := ⟨n.toNat, by omega⟩
  have : m < 9 := by omega
  match m, this with
  | 0, _ | 1, _ | 2, _ | 3, _ | 4, _ | 5, _ | 6, _ | 7, _ | 8, _ => rfl
theorem call_ok' (hfo : FoAt E.t i (.cons x ks r)) (ihN : KidsOk E i ks) (hw0 : x.n = 1 ∨ x.n = 5 → AtW ks 0 ∧ 1 < ks.len) (hw9 : ¬ (x.n = 1 ∨ x.n = 5) → (∀ p ∈ wfs ks, p) ∧ 0 ≤ x.n ∧ x.n < 9) : HOk 60 E i x ks [] (callM E.P x ks.heads (ems E.P ks)) := by
  intro s w lA lc h hl hb hb2
  refine fn_goQ (cx_ok 79 [4]) wideOrders Tryz.func60 rfl rfl Tryz.call60 (by simp [cx]) ?_; conv => whnf
  have hlen := kids_len hfo
  refine EvNew.blk fun r4 w1 hr4 hz4 hF1 hB4 => ?_
  have hr4k : r4 ∉ [E.kb] := by obtain ⟨_, _, _, hm⟩ := h.me; have := hm.blk.lt; simp; omega
  replace hl := hl.fr0 hF1
  replace h := h.fr0 hF1
  have tf : TM E w w1 := TF.fr0 hF1
  conv => whnf
  refine EvLd.blk hB4 rfl ?_
  conv => whnf
  refine EvIf.eq (fun c1 => ?_) (fun c1 => ?_)
  · obtain ⟨⟨p, hp0, hp⟩, hl1⟩ := hw0 (.inl c1)
    have hl0 := (List.getElem?_eq_some_iff.1 hp0).1
    rw [wfs_length] at hl0
    obtain ⟨p0, y0, k0, kd0, e0⟩ := kid_of (E := E) hfo hl0
    rw [hp0] at e0; injection e0 with e0; subst e0
    obtain ⟨p1, y1, k1, kd1, e1⟩ := kid_of (E := E) hfo hl1
    have hz01 := kids_two kd0.sz kd1.sz
    conv => whnf
    refine EvIdx.ints hl.ints (by omega) (by omega) rfl rfl fun a ha => ?_
    conv => whnf
    refine EvLd.ints hl.ints ha kd0.pl ?_
    conv => whnf
    refine EvCall.retQ0 (ihN _ _ _ _ kd0.at_ hp h (by omega) (by omega)) fun v w2 hq => ?_
    rw [← kd0.em] at hq
    have ls1 := kd0.gr s
    obtain ⟨s1, qs1⟩ : ∃ z, z = nthM (ems E.P ks) 0 s := ⟨_, rfl⟩
    rw [← qs1] at hq ls1
    obtain ⟨rfl, tfx, hx⟩ := hq
    replace hl := hl.tf tfx
    try replace hB4 := hB4.tf tfx hr4k (.inr (by decide))
    try replace hoA := hoA.tf h tfx
    try replace hoB := hoB.tf h tfx
    replace tf := tf.trans tfx
    clear h
    have h := hx
    clear hx tfx
    conv => whnf
    refine EvDraw.go (fun w' => Fr [] w2 w') (some 13) (.take 0 true (.take 1 true (.take 2 true (.take 3 true (.take 4 true (.take 5 true (.take 6 true (.take 7 true (.take 8 true (.take 9 true (.take 10 true (.take 11 true (.exec 12 (.exec 13 .done)))))))))))))) (by kernel_rfl) ?_ ?_
    · exact Fr.drew _
    obtain ⟨bv, lv, lvs, hm⟩ := h.me
    conv => whnf
    refine ⟨_, fun w' hw => (hm.blk.fr0 hw.1).add rfl, ?_⟩
    conv => whnf
    refine EvIdx.ints hl.ints (by omega) (by omega) rfl rfl fun a ha => ?_
    conv => whnf
    refine ⟨_, fun w' hw => IntsAt.cell (Rows.fr0 hl.ints hw.1) ha kd1.pl, ?_⟩
    conv => whnf
    refine EvIdx.nd h.env.tree kd1.lt rfl fun a2 ha2 => ?_
    conv => whnf
    refine ⟨_, fun w' hw => kd1.cell (Rows.fr0 h.env.tree hw.1) ha2 (n := 2) rfl, ?_⟩
    conv => whnf
    refine ⟨?_⟩
    conv => whnf
    have hFd := Fr.drew w2
    replace hl := hl.fr0 hFd
    try replace hB4 := hB4.fr0 hFd
    try replace hoA := hoA.fr0 hFd
    try replace hoB := hoB.fr0 hFd
    replace tf := tf.trans (TF.fr0 hFd)
    replace h := h.fr0 hFd
    refine EvNew.blk fun rx wx hrx hzx hFx hBx => ?_
    conv => whnf
    refine ⟨hFd.trans hFx, ?_⟩
    conv => whnf
    have hBx' : HB wx rx 5 (([u8 y1.n] : List Int).map fun x => .int .u8 x) := hBx
    refine EvCall.retQ0 (op_ok h hFx (XsAt.blk hBx' (by omega) rfl) 41 (by simp; omega)) fun v w3 hq => ?_
    have ls2 := len_op 41 ([u8 y1.n]) s1
    obtain ⟨s2, qs2⟩ : ∃ z, z = opM 41 [u8 y1.n] s1 := ⟨_, rfl⟩
    rw [← qs2] at hq ls2
    try simp only [List.length_nil, List.length_cons] at ls2
    replace hl := hl.fr0 hFx
    try replace hB4 := hB4.fr0 hFx
    try replace hoA := hoA.fr0 hFx
    try replace hoB := hoB.fr0 hFx
    replace tf := tf.trans (TF.fr0 hFx)
    replace h := h.fr0 hFx
    obtain ⟨rfl, tfx, hx⟩ := hq
    replace hl := hl.tf tfx
    try replace hB4 := hB4.tf tfx hr4k (.inr (by decide))
    try replace hoA := hoA.tf h tfx
    try replace hoB := hoB.tf h tfx
    replace tf := tf.trans tfx
    clear h
    have h := hx
    clear hx tfx
    conv => whnf
    refine ⟨rfl, tf, ?_⟩
    show MK E (if x.n = 1 then _ else _) _
    rw [if_pos c1, kd1.hd]
    subst qs2 qs1
    exact h
  conv => whnf
  refine EvIf.eq (fun c5 => ?_) (fun c5 => ?_)
  · obtain ⟨⟨p, hp0, hp⟩, hl1⟩ := hw0 (.inr c5)
    have hl0 := (List.getElem?_eq_some_iff.1 hp0).1
    rw [wfs_length] at hl0
    obtain ⟨p0, y0, k0, kd0, e0⟩ := kid_of (E := E) hfo hl0
    rw [hp0] at e0; injection e0 with e0; subst e0
    obtain ⟨p1, y1, k1, kd1, e1⟩ := kid_of (E := E) hfo hl1
    have hz01 := kids_two kd0.sz kd1.sz
    conv => whnf
    refine EvIdx.ints hl.ints (by omega) (by omega) rfl rfl fun a ha => ?_
    conv => whnf
    refine EvLd.ints hl.ints ha kd0.pl ?_
    conv => whnf
    refine EvCall.retQ0 (ihN _ _ _ _ kd0.at_ hp h (by omega) (by omega)) fun v w2 hq => ?_
    rw [← kd0.em] at hq
    have ls1 := kd0.gr s
    obtain ⟨s1, qs1⟩ : ∃ z, z = nthM (ems E.P ks) 0 s := ⟨_, rfl⟩
    rw [← qs1] at hq ls1
    obtain ⟨rfl, tfx, hx⟩ := hq
    replace hl := hl.tf tfx
    try replace hB4 := hB4.tf tfx hr4k (.inr (by decide))
    try replace hoA := hoA.tf h tfx
    try replace hoB := hoB.tf h tfx
    replace tf := tf.trans tfx
    clear h
    have h := hx
    clear hx tfx
    conv => whnf
    refine EvDraw.go (fun w' => Fr [] w2 w') none (.take 0 true (.take 1 true (.take 2 true (.take 3 true (.take 4 true (.take 5 true (.take 6 true (.take 7 true (.take 8 true (.take 9 true (.take 10 true (.take 11 true (.take 12 true (.take 13 true (.take 14 true (.take 15 true (.take 16 true (.take 17 true (.take 18 true (.take 19 true .done)))))))))))))))))))) (by kernel_rfl) ?_ ?_
    · exact Fr.drew _
    obtain ⟨bv, lv, lvs, hm⟩ := h.me
    conv => whnf
    refine ⟨_, fun w' hw => (hm.blk.fr0 hw.1).add rfl, ?_⟩
    conv => whnf
    refine ⟨_, fun w' hw => (hm.blk.fr0 hw.1).add rfl, ?_⟩
    conv => whnf
    refine EvIdx.ints hl.ints (by omega) (by omega) rfl rfl fun a ha => ?_
    conv => whnf
    refine ⟨_, fun w' hw => IntsAt.cell (Rows.fr0 hl.ints hw.1) ha kd1.pl, ?_⟩
    conv => whnf
    refine EvIdx.nd h.env.tree kd1.lt rfl fun a2 ha2 => ?_
    conv => whnf
    refine ⟨_, fun w' hw => kd1.cell (Rows.fr0 h.env.tree hw.1) ha2 (n := 4) rfl, ?_⟩
    conv => whnf
    refine ⟨lookV (E.P.texts y1.text), fun w' hw => look_i64 rfl (KeyCls.str rfl) Ky.str (h.env.texts.fr0 hw.1) y1.text, ?_⟩
    conv => whnf
    have hFd := Fr.drew w2
    replace hl := hl.fr0 hFd
    try replace hB4 := hB4.fr0 hFd
    try replace hoA := hoA.fr0 hFd
    try replace hoB := hoB.fr0 hFd
    replace tf := tf.trans (TF.fr0 hFd)
    replace h := h.fr0 hFd
    have hm1 := hm.fr0 hFd
    refine EvLd.blk hm1.blk rfl ?_
    conv => whnf
    have fin : ∀ b w', b = (s1.bad || !(E.P.texts y1.text).isSome) → Fr [E.kb] w2.drew w' → HB w' E.kb 91 [.slice E.At E.t.length E.ct, .map (some E.ir), .map (some E.xr), bv, .bool b, .map (some E.tr), lv] →
        TM E w2.drew w' ∧ MK E (needM (E.P.texts y1.text) s1) w' := fun b w' hb hF hB => by
      subst hb
      exact ⟨TF.blk hF (by simp), h.bad hm1 hF hB⟩
    have ls2 := len_need (E.P.texts y1.text) s1
    obtain ⟨s2, qs2⟩ : ∃ z, z = needM (E.P.texts y1.text) s1 := ⟨_, rfl⟩
    rw [← qs2] at fin ls2
    refine EvSplit.any (fun g => ?_) (fun g => ?_)
    · conv => whnf
      refine EvSt.blk hm1.blk rfl rfl (by simp [rsOf]) fun w3 hF3 hB3 => ?_
      have hq : Value.tuple #[] = Value.tuple #[] ∧ _ := ⟨rfl, fin _ w3 (by rw [g]; rfl) hF3 hB3⟩
      obtain ⟨-, tfx, hx⟩ := hq
      replace hl := hl.tf tfx
      replace tf := tf.trans tfx
      clear h
      have h := hx
      clear hx tfx
      conv => whnf
      refine EvCall.retQ0 (wide_ok h 45 ((E.P.texts y1.text).getD 0) (by omega)) fun v w2 hq => ?_
      have ls3 := len_wide 45 ((E.P.texts y1.text).getD 0) s2
      obtain ⟨s3, qs3⟩ : ∃ z, z = wideM 45 ((E.P.texts y1.text).getD 0) s2 := ⟨_, rfl⟩
      rw [← qs3] at hq ls3
      try simp only [List.length_nil, List.length_cons] at ls3
      obtain ⟨rfl, tfx, hx⟩ := hq
      replace hl := hl.tf tfx
      try replace hB4 := hB4.tf tfx hr4k (.inr (by decide))
      try replace hoA := hoA.tf h tfx
      try replace hoB := hoB.tf h tfx
      replace tf := tf.trans tfx
      clear h
      have h := hx
      clear hx tfx
      conv => whnf
      refine ⟨rfl, tf, ?_⟩
      show MK E (if x.n = 1 then _ else if x.n = 5 then _ else _) _
      rw [if_neg c1, if_pos c5, kd1.hd]
      subst qs3 qs2 qs1
      exact h
    · conv => whnf
      refine EvSt.blk hm1.blk rfl rfl (by simp [rsOf]) fun w3 hF3 hB3 => ?_
      have hq : Value.tuple #[] = Value.tuple #[] ∧ _ := ⟨rfl, fin _ w3 (by rw [g]; rfl) hF3 hB3⟩
      obtain ⟨-, tfx, hx⟩ := hq
      replace hl := hl.tf tfx
      replace tf := tf.trans tfx
      clear h
      have h := hx
      clear hx tfx
      conv => whnf
      refine EvCall.retQ0 (wide_ok h 45 ((E.P.texts y1.text).getD 0) (by omega)) fun v w2 hq => ?_
      have ls3 := len_wide 45 ((E.P.texts y1.text).getD 0) s2
      obtain ⟨s3, qs3⟩ : ∃ z, z = wideM 45 ((E.P.texts y1.text).getD 0) s2 := ⟨_, rfl⟩
      rw [← qs3] at hq ls3
      try simp only [List.length_nil, List.length_cons] at ls3
      obtain ⟨rfl, tfx, hx⟩ := hq
      replace hl := hl.tf tfx
      try replace hB4 := hB4.tf tfx hr4k (.inr (by decide))
      try replace hoA := hoA.tf h tfx
      try replace hoB := hoB.tf h tfx
      replace tf := tf.trans tfx
      clear h
      have h := hx
      clear hx tfx
      conv => whnf
      refine ⟨rfl, tf, ?_⟩
      show MK E (if x.n = 1 then _ else if x.n = 5 then _ else _) _
      rw [if_neg c1, if_pos c5, kd1.hd]
      subst qs3 qs2 qs1
      exact h
  · obtain ⟨hw, h0, h9⟩ := hw9 (by omega)
    conv => whnf
    refine EvCall.retQ0 (nodes_ok hfo ihN hw h hl (by omega) (by omega)) fun v w2 hq => ?_
    have ls1 := seq_gr (ems_gr E.P ks) s
    rw [szs_sum] at ls1
    obtain ⟨s1, qs1⟩ : ∃ z, z = seqM (ems E.P ks) s := ⟨_, rfl⟩
    rw [← qs1] at hq ls1
    obtain ⟨rfl, tfx, hx⟩ := hq
    replace hl := hl.tf tfx
    try replace hB4 := hB4.tf tfx hr4k (.inr (by decide))
    try replace hoA := hoA.tf h tfx
    try replace hoB := hoB.tf h tfx
    replace tf := tf.trans tfx
    clear h
    have h := hx
    clear hx tfx
    conv => whnf
    refine EvLd.blk hB4 rfl ?_
    conv => whnf
    refine ⟨h0, by omega, _, callC_get h0 h9, ?_⟩
    conv => whnf
    refine EvCall.retQ0 (op_ok h (Fr.refl _ _) (XsAt.nil _ _) (callC x.n) (by simp; omega)) fun v w2 hq => ?_
    have ls2 := len_op (callC x.n) [] s1
    obtain ⟨s2, qs2⟩ : ∃ z, z = opM (callC x.n) [] s1 := ⟨_, rfl⟩
    rw [← qs2] at hq ls2
    try simp only [List.length_nil, List.length_cons] at ls2
    obtain ⟨rfl, tfx, hx⟩ := hq
    replace hl := hl.tf tfx
    try replace hB4 := hB4.tf tfx hr4k (.inr (by decide))
    try replace hoA := hoA.tf h tfx
    try replace hoB := hoB.tf h tfx
    replace tf := tf.trans tfx
    clear h
    have h := hx
    clear hx tfx
    conv => whnf
    refine ⟨rfl, tf, ?_⟩
    show MK E (if x.n = 1 then _ else if x.n = 5 then _ else _) _
    rw [if_neg c1, if_neg c5]
    subst qs2 qs1
    exact h
end
end Go.Proofs.Tab
