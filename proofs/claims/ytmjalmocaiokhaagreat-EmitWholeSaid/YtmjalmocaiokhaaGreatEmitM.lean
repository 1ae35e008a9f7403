/- Package emit: the maker in memory, and its small functions. No condition. -/
import Derived.Test.YtmjalmocaiokhaaGreatEmitS
import Derived.Test.YtmjalmocaiokhaaGreatCopy
import Derived.Test.YtmjalmocaiokhaaGreatFwT
set_option linter.unusedVariables false
set_option linter.unusedSimpArgs false
set_option maxRecDepth 100000
namespace Go.Proofs.Tab
open Go Go.Fw

structure MEnv where
  B : Nat
  kb : Nat
  ir : Nat
  xr : Nat
  tr : Nat
  At : Option Addr
  ct : Nat
  t : List Nd
  P : Pl

def i64R (i : Int) (v : Value) : Prop := v = .int .i64 i
def funR (p : Nat × List Value) (v : Value) : Prop := v = .agg #[.func (.func p.1) #[] p.2.toArray]
def pt (r : Nat) : Value := .pointer (some ⟨r, 0, none⟩)

/-- The functions of the table that capture nothing. -/
def tabF (op : Int) : Option Nat :=
  if op = 10 then some 52 else if op = 30 then some 54 else if op = 33 then some 56
  else if op = 36 then some 57 else if op = 37 then some 58 else if op = 38 ∨ op = 39 then some 59
  else if op = 50 then some 60 else if op = 13 ∨ op = 16 then some 61 else if op = 14 then some 62
  else if op = 15 then some 63 else if op = 49 then some 64 else if op = 19 then some 65
  else if op = 11 ∨ op = 12 then some 68 else none
def TabOk (B tr : Nat) (w : World) : Prop :=
  ∃ f : Int → Option (Nat × List Value), HM w tr (fun n => Value.int .i8 n) funR f ∧ (∀ op g, tabF op = some g → f op = some (g, [])) ∧
    ∀ op c, tabF op = none → plainC op = some c → ∃ r, f op = some (67, [pt r]) ∧ r < B ∧ HB w r 5 [.int .u8 c]

/-- A jump that is laid later. -/
def LatOk (kb : Nat) (w : World) (v : Value) (p : Nat × Nat) : Prop :=
  ∃ rto rm rat, v = .func (.func 70) #[] #[pt rto, pt rm, pt rat] ∧ HB w rto 3 [.int .i64 p.2] ∧ HB w rm 86 [kp kb] ∧ HB w rat 3 [.int .i64 p.1]

structure MB (E : MEnv) (s : Mk) (w : World) (bv lv : Value) (lvs : List Value) : Prop where
  blk : HB w E.kb 91 [.slice E.At E.t.length E.ct, .map (some E.ir), .map (some E.xr), bv, .bool s.bad, .map (some E.tr), lv]
  bo : Own w 5 1 bv s.b.length (s.b.map fun n => .int .u8 n)
  lo : Own w 1 1 lv s.later.length lvs
  la : All2 (LatOk E.kb w) lvs s.later
  bB : ∀ b, bv.ownBlock = some b → E.B ≤ b
  lB : ∀ b, lv.ownBlock = some b → E.B ≤ b
structure ME (E : MEnv) (w : World) : Prop where
  tree : NodesAt w E.At E.t
  low : OnQ (· < E.B) E.At
  ints : HM w E.ir (fun n : Int => Value.int .i64 n) i64R E.P.ints
  texts : HM w E.xr (fun n : ByteArray => Value.string n) i64R E.P.texts
  tab : TabOk E.B E.tr w
  hi : E.ir < E.B
  hx : E.xr < E.B
  ht : E.tr < E.B
  hk : E.B ≤ E.kb
  hl : E.t.length ≤ 2000
/-- A maker in memory. -/
structure MK (E : MEnv) (s : Mk) (w : World) : Prop where
  env : ME E w
  me : ∃ bv lv lvs, MB E s w bv lv lvs

abbrev T2 : List Nat := [5, 1]
abbrev TM (E : MEnv) (w w' : World) : Prop := TF E.B [E.kb] T2 w w'

theorem _root_.Go.Fw.All2.imp {α β : Type} {R R' : α → β → Prop} {l : List α} {m : List β} (h : All2 R l m) (hr : ∀ a b, R a b → R' a b) : All2 R' l m := by
  induction h with
  | nil => exact .nil
  | cons h0 _ ih => exact .cons (hr _ _ h0) ih
theorem _root_.Go.Fw.All2.append {α β : Type} {R : α → β → Prop} {l l' : List α} {m m' : List β} (h : All2 R l m) (h' : All2 R l' m') : All2 R (l ++ l') (m ++ m') := by
  induction h with
  | nil => exact h'
  | cons h0 _ ih => exact .cons h0 ih

theorem _root_.Go.Fw.HM.tf {w w' : World} {r : Nat} {κ β : Type} {ek : κ → Value} {R : β → Value → Prop} {f : κ → Option β} {B : Nat} {X 𝒯 : List Nat} (h : HM w r ek R f) (hf : TF B X 𝒯 w w') (hx : r ∉ X) (hb : r < B) : HM w' r ek R f := by
  have hl := h.lt
  obtain ⟨es, c, h1, h2⟩ := h
  exact ⟨es, c, by rw [hf.block r hl hx (.inl hb)]; exact h1, h2⟩

section
variable {E : MEnv} {s : Mk} {w w' : World}
theorem TabOk.tf {B tr : Nat} {X 𝒯 : List Nat} (h : TabOk B tr w) (ht : tr < B) (hX : ∀ x ∈ X, B ≤ x) (hf : TF B X 𝒯 w w') : TabOk B tr w' := by
  obtain ⟨f, h1, h2, h3⟩ := h
  refine ⟨f, h1.tf hf (fun hm => by have := hX _ hm; omega) ht, h2, fun op c e1 e2 => ?_⟩
  obtain ⟨r, g1, g2, g3⟩ := h3 op c e1 e2
  exact ⟨r, g1, g2, g3.tf hf (fun hm => by have := hX _ hm; omega) (.inl g2)⟩
theorem ME.tf {𝒯 : List Nat} (h : ME E w) (hf : TF E.B [E.kb] 𝒯 w w') : ME E w' := by
  have hk := h.hk
  refine ⟨Rows.tfB h.tree hf fun a ha => ⟨?_, h.low a ha⟩, h.low, h.ints.tf hf ?_ h.hi, h.texts.tf hf ?_ h.hx, h.tab.tf h.ht (by simpa using hk) hf, h.hi, h.hx, h.ht, h.hk, h.hl⟩
  · have := h.low a ha; simp; omega
  · have := h.hi; simp; omega
  · have := h.hx; simp; omega
theorem LatOk.tf {kb B : Nat} {v : Value} {p : Nat × Nat} (h : LatOk kb w v p) (h0 : tyOf w kb = some 91) (hf : TF B [kb] T2 w w') : LatOk kb w' v p := by
  obtain ⟨a, b, c, h1, h2, h3, h4⟩ := h
  have ne : ∀ r T, tyOf w r = some T → T ≠ 91 → r ∉ [kb] := fun r T hr hT => by
    simp; rintro rfl; rw [h0] at hr; injection hr with hr; exact hT hr.symm
  exact ⟨a, b, c, h1, h2.tf hf (ne _ _ h2.ty (by decide)) (.inr (by decide)), h3.tf hf (ne _ _ h3.ty (by decide)) (.inr (by decide)), h4.tf hf (ne _ _ h4.ty (by decide)) (.inr (by decide))⟩
theorem LatOk.fr0 {kb : Nat} {v : Value} {p : Nat × Nat} (h : LatOk kb w v p) (hf : Fr [] w w') : LatOk kb w' v p := by
  obtain ⟨a, b, c, h1, h2, h3, h4⟩ := h
  exact ⟨a, b, c, h1, h2.fr0 hf, h3.fr0 hf, h4.fr0 hf⟩
theorem MB.fr0 {bv lv : Value} {lvs : List Value} (h : MB E s w bv lv lvs) (hf : Fr [] w w') : MB E s w' bv lv lvs :=
  ⟨h.blk.fr0 hf, h.bo.fr0 hf, h.lo.fr0 hf, All2.imp h.la (fun _ _ g => g.fr0 hf), h.bB, h.lB⟩
theorem MK.fr0 (h : MK E s w) (hf : Fr [] w w') : MK E s w' := by
  obtain ⟨bv, lv, lvs, hb⟩ := h.me
  exact ⟨h.env.tf (𝒯 := []) (TF.fr0 hf), bv, lv, lvs, hb.fr0 hf⟩
theorem MB.keep {bv lv : Value} {lvs : List Value} (h : MB E s w bv lv lvs) {B : Nat} (hf : TF B [E.kb] T2 w w') : All2 (LatOk E.kb w') lvs s.later := All2.imp h.la fun _ _ g => g.tf h.blk.ty hf
theorem MB.ne_b {bv lv : Value} {lvs : List Value} (h : MB E s w bv lv lvs) : bv.ownBlock ≠ some E.kb := own_ne_blk h.bo h.blk (by decide)
theorem MB.ne_l {bv lv : Value} {lvs : List Value} (h : MB E s w bv lv lvs) : lv.ownBlock ≠ some E.kb := own_ne_blk h.lo h.blk (by decide)
theorem MB.ne_bl {bv lv : Value} {lvs : List Value} (h : MB E s w bv lv lvs) {k : Nat} (h1 : bv.ownBlock = some k) : lv.ownBlock ≠ some k := fun h2 => by
  have a := h.bo.ty h1
  rw [h.lo.ty h2] at a
  exact absurd a (by decide)
end

/-- Bytes that lie in memory, in a block not older than lo. -/
def XsAt (lo : Nat) (w : World) (xv : Value) (xs : List Int) : Prop := ∃ A c, xv = .slice A xs.length c ∧ Fw.Rows w A 1 (xs.map fun x => [.int .u8 x]) ∧ ∀ a, A = some a → lo ≤ a.block
theorem XsAt.nil (lo : Nat) (w : World) : XsAt lo w (.slice none 0 0) [] := ⟨none, 0, rfl, Rows.nil, by simp⟩
theorem XsAt.blk {lo r : Nat} {w : World} {xs : List Int} {n c : Nat} (h : HB w r 5 (xs.map fun x => .int .u8 x)) (hr : lo ≤ r) (hn : n = xs.length) : XsAt lo w (.slice (some ⟨r, 0, none⟩) n c) xs :=
  ⟨_, c, by rw [hn], HB.rows (by rw [flat_one]; exact h) (by simp), fun a ha => by injection ha with ha; subst ha; exact hr⟩

theorem op_ok {E : MEnv} {s : Mk} {w0 w : World} (h0 : MK E s w0) (hF : Fr [] w0 w) {xv : Value} {xs : List Int} (hx : XsAt w0.heap.size w xv xs) (code : Int) (hb : s.b.length + 1 + xs.length ≤ 4000000) :
    RetQ Tryz.prog 41 [kp E.kb, .int .u8 code, xv] w fun v w' => v = .tuple #[] ∧ TM E w w' ∧ MK E (opM code xs s) w' := by
  have hlo : ∀ k, (∃ bv lv lvs, MB E s w0 bv lv lvs ∧ bv.ownBlock = some k) → k < w0.heap.size := fun k ⟨bv, lv, lvs, h1, h2⟩ => h1.bo.lt h2
  obtain ⟨bv, lv, lvs, hm0⟩ := h0.me
  have hm := hm0.fr0 hF
  obtain ⟨xA, xc, rfl, hxr, hxl⟩ := hx
  refine fn_goQ (cx_ok 18 []) wideOrders Tryz.func41 rfl rfl Tryz.call41 (by simp [cx]) ?_; conv => whnf
  refine EvLd.blk hm.blk rfl ?_
  conv => whnf
  refine EvNew.blk fun r w1 hr hz hF1 hB1 => ?_
  conv => whnf
  have hm1 := hm.fr0 hF1
  refine EvApp.lit (cx_ok 0 []) rfl (⟨rfl, rfl, rfl, rfl⟩ : El (cx 0 []) 5 1 1 [.int .u8 0]) (by omega) rfl hm1.bo hB1 rfl (by simp [Value.oneCell']) (by omega) (by simp [maxLen]; omega) (by simp [rsOf]) fun v2 w2 ho2 hF2 hat2 => ?_
  conv => whnf
  have hxr2 : Fw.Rows w2 xA 1 (xs.map fun x => [.int .u8 x]) := (Rows.fr0 hxr hF1).fr hF2 fun a ha hmm => by
    have a1 := hxl a ha
    have a2 := hm0.bo.lt (toList_some.1 hmm)
    omega
  refine EvApp.rows (cx_ok 0 []) rfl (⟨rfl, rfl, rfl, rfl⟩ : El (cx 0 []) 5 1 1 [.int .u8 0]) (by omega) rfl ho2 hxr2 (by simp) (by simp [Value.oneCell']) (by omega) (by simp [maxLen]; omega) (by simp [rsOf]) fun v3 w3 ho3 hF3 hat3 => ?_
  obtain ⟨A3, c3, rfl, _⟩ := ho3.form
  conv => whnf
  have hs1 := hF1.size
  have tf1 : TM E w w1 := TF.fr0 hF1
  have tf2 : TM E w1 w2 := TF.own hF2 hm1.bo hm.bB (by simp)
  have hv2B : ∀ b, v2.ownBlock = some b → E.B ≤ b := fun b hb => by
    rcases hat2 with e | e
    · exact hm.bB b (e ▸ hb)
    · rw [e] at hb; injection hb with hb
      have := hm.blk.lt; have := h0.env.hk; omega
  have hv3B : ∀ b, (Value.slice A3 (s.b.length + 1 + xs.length) c3).ownBlock = some b → E.B ≤ b := fun b hb => by
    rcases hat3 with e | e
    · exact hv2B b (e ▸ hb)
    · rw [e] at hb; injection hb with hb
      have := hF2.size; have := hm.blk.lt; have := h0.env.hk; omega
  have tf3 : TM E w2 w3 := TF.own hF3 ho2 hv2B (by simp)
  have hne2 : v2.ownBlock ≠ some E.kb := fun e => by
    rcases hat2 with e2 | e2
    · exact hm.ne_b (e2 ▸ e)
    · rw [e2] at e; injection e with e
      have := hm.blk.lt; omega
  have hk3 : HB w3 E.kb _ _ := (hm1.blk.fr hF2 (fun hmm => hm.ne_b (toList_some.1 hmm))).fr hF3 (fun hmm => hne2 (toList_some.1 hmm))
  refine EvSt.blk hk3 rfl rfl (by simp [rsOf]) fun w4 hF4 hB4 => ?_
  have tf4 : TM E w3 w4 := TF.blk hF4 (by simp)
  have tf := ((tf1.trans tf2).trans tf3).trans tf4
  have hne3 : (Value.slice A3 (s.b.length + 1 + xs.length) c3).ownBlock ≠ some E.kb := own_ne_blk ho3 hk3 (by decide)
  have hl4 : Own w4 1 1 lv s.later.length lvs := by
    have a1 := hm1.lo.fr hF2 (fun k hk hmm => hm.ne_bl (toList_some.1 hmm) hk)
    have a2 := a1.fr hF3 (fun k hk hmm => by
      have b1 := ho2.ty (toList_some.1 hmm)
      rw [a1.ty hk] at b1
      exact absurd b1 (by decide))
    exact a2.fr hF4 (fun k hk => by simp; rintro rfl; exact hm.ne_l hk)
  conv => whnf
  refine ⟨rfl, tf, (h0.env.tf (𝒯 := []) (TF.fr0 hF)).tf tf, _, lv, lvs, hB4, ?_, hl4, hm.keep tf, hv3B, hm.lB⟩
  have ho4 := ho3.fr hF4 (fun k hk => by simp; rintro rfl; exact hne3 hk)
  have e1 : (opM code xs s).b.length = s.b.length + 1 + xs.length := by simp [opM]; omega
  have e2 : ((opM code xs s).b.map fun n => Value.int .u8 n) = (s.b.map fun n => Value.int .u8 n) ++ [Value.int .u8 code] ++ (xs.map fun x => [Value.int .u8 x]).flatten := by simp [opM, flat_one]
  rw [e1, e2]
  exact ho4

theorem wide_ok {E : MEnv} {s : Mk} {w : World} (h : MK E s w) (code n : Int) (hb : s.b.length + 3 ≤ 4000000) :
    RetQ Tryz.prog 102 [kp E.kb, .int .u8 code, .int .i64 n] w fun v w' => v = .tuple #[] ∧ TM E w w' ∧ MK E (wideM code n s) w' := by
  refine fn_goQ (cx_ok 15 []) wideOrders Tryz.func102 rfl rfl Tryz.call102 (by simp [cx]) ?_; conv => whnf
  refine ⟨by omega, ?_⟩
  conv => whnf
  refine ⟨?_⟩
  conv => whnf
  refine ⟨?_⟩
  conv => whnf
  refine EvNew.blk fun r w1 hr hz hF1 hB1 => ?_
  conv => whnf
  have hB : HB w1 r 5 ([u8 (n.fdiv 256), u8 n].map fun x => .int .u8 x) := hB1
  refine EvCall.retQ0 (op_ok h hF1 (XsAt.blk hB (by omega) rfl) code (by simp; omega)) fun v w2 hq => ?_
  obtain ⟨rfl, tf, hm⟩ := hq
  conv => whnf
  exact ⟨rfl, (TF.fr0 hF1).trans tf, hm⟩

theorem zero_int (w : World) : (zeroValue 3).run Tryz.prog w = .ok (.int .i64 0) w := by
  obtain ⟨j, h1, _, _, z, h2, h3⟩ := (cx_ok 0 []).info (t := 3) (by decide)
  have h4 : (Tryz.prog.info? 3).bind (·.zero) = some (.int .i64 0) := by kernel_rfl
  rw [h1, Option.bind_some, h2] at h4
  injection h4 with h4
  subst h4
  simp [zeroValue, typeInfo, h1, h2, Result.andThen]
def lookV (o : Option Int) : Value := .tuple #[.int .i64 (o.getD 0), .bool o.isSome]
theorem look_i64 {w : World} {r t kt : Nat} {κ : Type} {ek : κ → Value} {f : κ → Option Int} {d : TypeDesc} (ht : ((cx 0 []).ty t).cls = .map kt 3) (hk : KeyCls (cx 0 []) kt d) (K : Ky d ek) (h : HM w r ek i64R f) (k : κ) :
    (Instr.lookup t (.map (some r)) (ek k) true).run Tryz.prog w = .ok (lookV (f k)) w := by
  obtain ⟨es, c, h1, h2, h3, _, _, h4⟩ := h.find K k
  have hku := hk.und (cx_ok 0 [])
  rcases h4 with ⟨g1, g2, _⟩ | ⟨j, e, b, g1, g2, g3, g4, g5⟩
  · simp [Instr.lookup, run_underlying (COk.map (cx_ok 0 []) ht), MapKept.run_getObj_map h1, MapKept.run_checkKey hku (K.isKey k), MapKept.run_findKey hku g1, zero_int, Result.andThen, g2, lookV]
  · have : e.val = .int .i64 b := g5
    simp [Instr.lookup, run_underlying (COk.map (cx_ok 0 []) ht), MapKept.run_getObj_map h1, MapKept.run_checkKey hku (K.isKey k), MapKept.run_findKey hku g1, Result.andThen, g4, this, lookV]

/-- The maker's own block is written: bad. -/
theorem MK.bad {E : MEnv} {s : Mk} {w w' : World} (h : MK E s w) {b : Bool} {bv lv : Value} {lvs : List Value} (hm : MB E s w bv lv lvs) (hF : Fr [E.kb] w w')
    (hB : HB w' E.kb 91 [.slice E.At E.t.length E.ct, .map (some E.ir), .map (some E.xr), bv, .bool b, .map (some E.tr), lv]) : MK E { s with bad := b } w' := by
  have tf : TM E w w' := TF.blk hF (by simp)
  exact ⟨h.env.tf tf, bv, lv, lvs, hB, hm.bo.fr hF (fun k hk => by simp; rintro rfl; exact hm.ne_b hk), hm.lo.fr hF (fun k hk => by simp; rintro rfl; exact hm.ne_l hk), hm.keep tf, hm.bB, hm.lB⟩

theorem number_ok {E : MEnv} {s : Mk} {w : World} (h : MK E s w) (n : Int) :
    RetQ Tryz.prog 103 [kp E.kb, .int .i64 n] w fun v w' => v = .int .i64 ((E.P.ints n).getD 0) ∧ TM E w w' ∧ MK E (needM (E.P.ints n) s) w' := by
  obtain ⟨bv, lv, lvs, hm⟩ := h.me
  refine fn_goQ (cx_ok 28 []) wideOrders Tryz.func103 rfl rfl Tryz.call103 (by simp [cx]) ?_; conv => whnf
  refine EvLd.blk hm.blk rfl ?_
  conv => whnf
  refine ⟨_, look_i64 rfl (KeyCls.int rfl) (Ky.int .i64) h.env.ints n, ?_⟩
  conv => whnf
  refine EvLd.blk hm.blk rfl ?_
  conv => whnf
  have fin : ∀ b w', b = (s.bad || !(E.P.ints n).isSome) → Fr [E.kb] w w' → HB w' E.kb 91 [.slice E.At E.t.length E.ct, .map (some E.ir), .map (some E.xr), bv, .bool b, .map (some E.tr), lv] →
      TM E w w' ∧ MK E (needM (E.P.ints n) s) w' := fun b w' hb hF hB => by
    subst hb
    exact ⟨TF.blk hF (by simp), h.bad hm hF hB⟩
  refine EvSplit.any (fun h1 => ?_) (fun h1 => ?_)
  · conv => whnf
    refine EvSt.blk hm.blk rfl rfl (by simp [rsOf]) fun w1 hF hB => ?_
    conv => whnf
    exact ⟨rfl, fin true w1 (by rw [h1]; rfl) hF hB⟩
  · conv => whnf
    refine EvSt.blk hm.blk rfl rfl (by simp [rsOf]) fun w1 hF hB => ?_
    conv => whnf
    exact ⟨rfl, fin _ w1 (by rw [h1]; rfl) hF hB⟩

theorem push_ok {E : MEnv} {s : Mk} {w : World} (h : MK E s w) (n : Int) (hb : s.b.length + 3 ≤ 4000000) :
    RetQ Tryz.prog 55 [kp E.kb, .int .i64 n] w fun v w' => v = .tuple #[] ∧ TM E w w' ∧ MK E (pushM E.P n s) w' := by
  refine fn_goQ (cx_ok 9 []) wideOrders Tryz.func55 rfl rfl Tryz.call55 (by simp [cx]) ?_; conv => whnf
  refine EvCall.retQ0 (number_ok h n) fun v w1 hq => ?_
  obtain ⟨rfl, tf1, h1⟩ := hq
  conv => whnf
  refine EvCall.retQ0 (wide_ok h1 1 _ hb) fun v w2 hq => ?_
  obtain ⟨rfl, tf2, h2⟩ := hq
  conv => whnf
  exact ⟨rfl, tf1.trans tf2, h2⟩

/-- A jump ahead that is open: what the closure that says 'here' holds. -/
def OpenAt (E : MEnv) (v : Value) (a : Nat) (w : World) : Prop :=
  ∃ rm ra, v = .func (.func 69) #[] #[pt rm, pt ra] ∧ HB w rm 86 [kp E.kb] ∧ HB w ra 3 [.int .i64 a]
theorem OpenAt.tf {E : MEnv} {v : Value} {a : Nat} {s : Mk} {w w' : World} (h : OpenAt E v a w) (hm : MK E s w) (hf : TM E w w') : OpenAt E v a w' := by
  obtain ⟨bv, lv, lvs, hb⟩ := hm.me
  obtain ⟨rm, ra, h1, h2, h3⟩ := h
  exact ⟨rm, ra, h1, h2.tf hf (by simp; exact h2.ne_ty hb.blk (by decide)) (.inr (by decide)), h3.tf hf (by simp; exact h3.ne_ty hb.blk (by decide)) (.inr (by decide))⟩

theorem ahead_ok {E : MEnv} {s : Mk} {w0 w : World} (h0 : MK E s w0) (hF : Fr [] w0 w) {xv : Value} {xs : List Int} (hx : Own w 5 1 xv xs.length (xs.map fun x => .int .u8 x)) (hxl : ∀ b, xv.ownBlock = some b → w0.heap.size ≤ b) (code : Int) (hb : s.b.length + 3 + xs.length ≤ 4000000) :
    RetQ Tryz.prog 40 [kp E.kb, .int .u8 code, xv] w fun v w' => OpenAt E v (holeM (aheadM code xs s)) w' ∧ TM E w w' ∧ MK E (aheadM code xs s) w' := by
  refine fn_goQ (cx_ok 21 [3, 7]) wideOrders Tryz.func40 rfl rfl Tryz.call40 (by simp [cx]) ?_; conv => whnf
  refine EvNew.blk fun rm w1 hr1 hz1 hF1 hB1 => ?_
  conv => whnf
  refine EvDraw.go (fun w' => HB w' rm 86 [kp E.kb]) (some 5) (.take 0 true (.take 1 true (.take 2 true (.exec 3 (.exec 4 (.exec 5 .done)))))) (by kernel_rfl) ?_ ?_
  · exact hB1.fr0 (Fr.drew _)
  conv => whnf
  refine ⟨_, fun w' hw => hw.1.cell rfl, ?_⟩
  conv => whnf
  refine EvNew.blk fun r2 w2 hr2 hz2 hF2 hB2 => ?_
  have hFd := Fr.drew w1
  have hBm2 : HB w2 rm _ _ := (hB1.fr0 hFd).fr0 hF2
  conv => whnf
  refine ⟨hBm2, ?_⟩
  conv => whnf
  have hx2 := ((hx.fr0 hF1).fr0 hFd).fr0 hF2
  have hs1 := hF1.size
  have hs2 := hF2.size
  have hsd := hFd.size
  have hs0 := hF.size
  refine EvApp.lit (cx_ok 0 []) rfl (⟨rfl, rfl, rfl, rfl⟩ : El (cx 0 []) 5 1 1 [.int .u8 0]) (by omega) rfl hx2 hB2 rfl (by simp [Value.oneCell']) (by omega) (by simp [maxLen]; omega) (by simp [rsOf]) fun v3 w3 ho3 hF3 hat3 => ?_
  have hBm3 : HB w3 rm _ _ := hBm2.fr hF3 (fun hmm => own_ne_blk hx2 hBm2 (by decide) (toList_some.1 hmm))
  conv => whnf
  refine ⟨hBm3, ?_⟩
  conv => whnf
  have hF03 : Fr [] w0 w3 := ((((hF.trans hF1).trans hFd).trans hF2)).trans' hF3 (fun y hy hl => by have := hxl y (toList_some.1 hy); omega)
  have hl3 : ∀ b, v3.ownBlock = some b → w0.heap.size ≤ b := fun b hb => by
    rcases hat3 with e | e
    · exact hxl b (e ▸ hb)
    · rw [e] at hb; injection hb with hb; omega
  obtain ⟨A3, c3, rfl, _⟩ := ho3.form
  have hrows : Fw.Rows w3 A3 1 ((xs ++ [0, 0]).map fun x => [.int .u8 x]) := Own.rows ho3 (by rw [flat_one, List.map_append]; rfl) (fun r hr => by obtain ⟨x, _, rfl⟩ := List.mem_map.1 hr; rfl) (by simp)
  refine EvCall.retQ0 (op_ok h0 hF03 (xs := xs ++ [0, 0]) ⟨A3, c3, by simp, hrows, fun a ha => hl3 a.block (by rw [ha]; rfl)⟩ code (by simp; omega)) fun v w4 hq => ?_
  obtain ⟨rfl, tf4, h4⟩ := hq
  have tf04 : TM E w w4 := ((((TF.fr0 hF1).trans (TF.fr0 hFd)).trans (TF.fr0 hF2)).trans (TF.own hF3 hx2 (fun b hb => by have := hxl b hb; obtain ⟨_, _, _, q⟩ := h0.me; have := q.blk.lt; have := h0.env.hk; omega) (by simp))).trans tf4
  obtain ⟨bv, lv, lvs, hm4⟩ := h4.me
  have hBm4 : HB w4 rm _ _ := hBm3.tf tf4 (by simp; intro e; obtain ⟨_, _, _, q⟩ := h0.me; have := q.blk.lt; omega) (.inr (by decide))
  conv => whnf
  refine EvLd.blk0 hBm4 rfl ?_
  conv => whnf
  refine EvLd.blk hm4.blk rfl ?_
  obtain ⟨bA, bc, rfl, _⟩ := hm4.bo.form
  conv => whnf
  have hbl : (opM code (xs ++ [0, 0]) s).b.length = s.b.length + 3 + xs.length := by simp [opM]; omega
  refine EvAr.i64 (by omega) ?_; conv => whnf
  refine EvNew.blk fun ra w5 hra hza hF5 hB5 => ?_
  conv => whnf
  refine EvSt.blk0 hB5 rfl rfl (by simp [rsOf]) fun w6 hF6 hB6 => ?_
  conv => whnf
  have hF46 : Fr [] w4 w6 := hF5.trans' hF6 (by simp; omega)
  refine ⟨⟨rm, ra, rfl, hBm4.fr0 hF46, ?_⟩, tf04.trans (TF.fr0 hF46), h4.fr0 hF46⟩
  have e : ((holeM (aheadM code xs s) : Nat) : Int) = ((opM code (xs ++ [0, 0]) s).b.length : Int) - 2 := by
    show (((opM code (xs ++ [0, 0]) s).b.length - 2 : Nat) : Int) = _
    omega
  rw [e]
  exact hB6

theorem here_ok {E : MEnv} {s : Mk} {w : World} (h : MK E s w) {rm ra a : Nat} (hm : HB w rm 86 [kp E.kb]) (ha : HB w ra 3 [.int .i64 a]) (hb : s.later.length + 1 ≤ 1000000) :
    RetQ Tryz.prog 69 [pt rm, pt ra] w fun v w' => v = .tuple #[] ∧ TM E w w' ∧ MK E (hereM a s) w' := by
  obtain ⟨bv, lv, lvs, hk⟩ := h.me
  refine fn_goQ (cx_ok 18 [2]) wideOrders Tryz.func69 rfl rfl Tryz.call69 (by simp [cx]) ?_; conv => whnf
  refine EvLd.blk0 hm rfl ?_
  conv => whnf
  refine EvLd.blk hk.blk rfl ?_
  obtain ⟨bA, bc, rfl, _⟩ := hk.bo.form
  conv => whnf
  refine EvNew.blk fun rt w1 hrt hzt hF1 hB1 => ?_
  conv => whnf
  refine EvSt.blk0 hB1 rfl rfl (by simp [rsOf]) fun w2 hF2 hB2 => ?_
  have hF02 : Fr [] w w2 := hF1.trans' hF2 (by simp; omega)
  have h2 := h.fr0 hF02
  have hk2 := hk.fr0 hF02
  have hm2 := hm.fr0 hF02
  conv => whnf
  refine EvDraw.go (fun w' => HB w' rm 86 [kp E.kb] ∧ HB w' E.kb 91 [.slice E.At E.t.length E.ct, .map (some E.ir), .map (some E.xr), .slice bA s.b.length bc, .bool s.bad, .map (some E.tr), lv]) (some 10) (.take 0 true (.take 1 true (.take 2 true (.take 3 true (.take 4 true (.take 5 true (.exec 6 (.exec 7 (.take 8 true (.take 9 true (.exec 10 .done))))))))))) (by kernel_rfl) ?_ ?_
  · exact ⟨hm2.fr0 (Fr.drew _), hk2.blk.fr0 (Fr.drew _)⟩
  conv => whnf
  refine ⟨_, fun w' hw => hw.1.1.cell rfl, ?_⟩
  conv => whnf
  refine ⟨_, fun w' hw => hw.1.1.cell rfl, ?_⟩
  conv => whnf
  refine ⟨_, fun w' hw => hw.1.2.add rfl, ?_⟩
  conv => whnf
  refine EvNew.blk fun r3 w3 hr3 hz3 hF3 hB3 => ?_
  have hFd := Fr.drew w2
  have hF23 := hFd.trans hF3
  conv => whnf
  refine ⟨⟨hm2.fr0 hF23, hk2.blk.fr0 hF23⟩, ?_⟩
  conv => whnf
  have hk3 := hk2.fr0 hF23
  refine EvApp.lit (cx_ok 0 []) rfl (⟨rfl, rfl, rfl, rfl⟩ : El (cx 0 []) 1 1 8 [.nilFunc]) (by omega) rfl hk3.lo hB3 rfl (by simp [Value.oneCell']) (by omega) (by simp [maxLen]; omega) (by simp [rsOf]) fun v4 w4 ho4 hF4 hat4 => ?_
  obtain ⟨A4, c4, rfl, _⟩ := ho4.form
  have hm3 := hm2.fr0 hF23
  have hm4 : HB w4 rm _ _ := hm3.fr hF4 (fun hmm => own_ne_blk hk3.lo hm3 (by decide) (toList_some.1 hmm))
  have hb4 : HB w4 E.kb _ _ := hk3.blk.fr hF4 (fun hmm => hk3.ne_l (toList_some.1 hmm))
  conv => whnf
  refine ⟨⟨hm4, hb4⟩, ?_⟩
  conv => whnf
  refine EvSt.blk hb4 rfl rfl (by simp [rsOf]) fun w5 hF5 hB5 => ?_
  conv => whnf
  have hl4 : ∀ b, (Value.slice A4 (s.later.length + 1) c4).ownBlock = some b → E.B ≤ b := fun b hb => by
    rcases hat4 with e | e
    · exact hk3.lB b (e ▸ hb)
    · rw [e] at hb; injection hb with hb
      have := hk3.blk.lt; have := h.env.hk; omega
  have tf34 : TM E w3 w4 := TF.own hF4 hk3.lo hk3.lB (by simp)
  have tf45 : TM E w4 w5 := TF.blk hF5 (by simp)
  have tf03 : TM E w w3 := TF.fr0 (hF02.trans hF23)
  have tf : TM E w w5 := (tf03.trans tf34).trans tf45
  have tf35 := tf34.trans tf45
  have hne4 : (Value.slice A4 (s.later.length + 1) c4).ownBlock ≠ some E.kb := own_ne_blk ho4 hb4 (by decide)
  have e1 : (hereM a s).later.length = s.later.length + 1 := by simp [hereM]
  refine ⟨rfl, tf, h.env.tf tf, .slice bA s.b.length bc, _, lvs ++ [.func (.func 70) #[] #[pt rt, pt rm, pt ra]], hB5, ?_, ?_, ?_, hk.bB, hl4⟩
  · exact (hk3.bo.fr hF4 (fun k hk' hmm => hk3.ne_bl hk' (toList_some.1 hmm))).fr hF5 (fun k hk' => by simp; rintro rfl; exact hk3.ne_b hk')
  · rw [e1]
    exact ho4.fr hF5 (fun k hk' => by simp; rintro rfl; exact hne4 hk')
  · have l1 : All2 (LatOk E.kb w5) lvs s.later := hk3.keep tf35
    have ne : ∀ {r T : Nat} {cs cs' : List Value} {w'' : World}, HB w'' r T cs → HB w'' E.kb 91 cs' → T ≠ 91 → r ∉ [E.kb] := fun g1 g2 g3 => by simp; exact g1.ne_ty g2 g3
    have hB2' := hB2.fr0 hF23
    have ha3 := ha.fr0 (hF02.trans hF23)
    refine All2.append l1 (.cons ⟨rt, rm, ra, rfl, ?_, hm3.tf tf35 (ne hm3 hk3.blk (by decide)) (.inr (by decide)), ha3.tf tf35 (ne ha3 hk3.blk (by decide)) (.inr (by decide))⟩ .nil)
    exact hB2'.tf tf35 (ne hB2' hk3.blk (by decide)) (.inr (by decide))
end Go.Proofs.Tab
