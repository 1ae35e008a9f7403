/- Package check: the looker's small functions. No condition. -/
import Derived.Test.YtmjalmocaiokhaaGreatKinds
import Derived.Test.YtmjalmocaiokhaaGreatFwM
set_option linter.unusedVariables false
set_option linter.unusedSimpArgs false
set_option maxRecDepth 100000
namespace Go.Proofs.Tab
open Go Go.Fw

structure Lk where
  slots : List Int
  seen : Int → Option Bool
  bad : Bool

def seenR (b : Bool) (v : Value) : Prop := v = .bool b
def kp (kb : Nat) : Value := .pointer (some ⟨kb, 0, none⟩)

/-- A looker in memory. -/
structure LK (B kb mr : Nat) (At : Option Addr) (ct : Nat) (t : List Nd) (vs : Value) (s : Lk) (w : World) : Prop where
  blk : HB w kb 81 [.slice At t.length ct, vs, .map (some mr), .bool s.bad]
  tree : NodesAt w At t
  low : OnQ (· < B) At
  own : Own w 51 1 vs s.slots.length (s.slots.map fun n => .int .i8 n)
  map : HM w mr (fun n => Value.int .i64 n) seenR s.seen
  hk : B ≤ kb
  hm : B ≤ mr
  hv : ∀ b, vs.ownBlock = some b → B ≤ b

theorem own_ne_blk {w : World} {T sz n r T' : Nat} {v : Value} {xs cs : List Value} (h : Own w T sz v n xs) (hb : HB w r T' cs) (hT : T ≠ T') : v.ownBlock ≠ some r := by
  intro e
  rcases h.2 with ⟨rfl, _⟩ | ⟨g, cap, cur, rfl, _, h4, _⟩
  · cases e
  · have e' : g = r := by injection e
    subst e'
    unfold HB at hb
    rw [hb] at h4
    injection h4 with h4
    injection h4 with _ h5
    exact hT h5.symm
theorem own_ne_map {w : World} {T sz n r : Nat} {v : Value} {xs : List Value} {κ β : Type} {ek : κ → Value} {R : β → Value → Prop} {f : κ → Option β} (h : Own w T sz v n xs) (hb : HM w r ek R f) : v.ownBlock ≠ some r := by
  intro e
  obtain ⟨es, c, hb, _⟩ := hb
  rcases h.2 with ⟨rfl, _⟩ | ⟨g, cap, cur, rfl, _, h4, _⟩
  · cases e
  · have e' : g = r := by injection e
    subst e'
    rw [hb] at h4; cases h4

section
variable {B kb mr : Nat} {At : Option Addr} {ct : Nat} {t : List Nd} {vs : Value} {s : Lk} {w w' : World} {S : List Nat}
theorem LK.fr (h : LK B kb mr At ct t vs s w) (hf : Fr S w w') (h1 : kb ∉ S) (h2 : mr ∉ S) (h3 : ∀ b, vs.ownBlock = some b → b ∉ S) (h4 : ∀ b, b < B → b ∉ S) : LK B kb mr At ct t vs s w' :=
  ⟨h.blk.fr hf h1, Rows.frQ h.tree h.low hf h4, h.low, h.own.fr hf h3, h.map.fr hf h2, h.hk, h.hm, h.hv⟩
theorem LK.fr0 (h : LK B kb mr At ct t vs s w) (hf : Fr [] w w') : LK B kb mr At ct t vs s w' := h.fr hf (by simp) (by simp) (by simp) (by simp)
/-- The looker's own block is written. -/
theorem LK.blk' (h : LK B kb mr At ct t vs s w) (hf : Fr [kb] w w') {b : Bool} (hb : HB w' kb 81 [.slice At t.length ct, vs, .map (some mr), .bool b]) : LK B kb mr At ct t vs { s with bad := b } w' := by
  have hne := own_ne_blk h.own h.blk (by decide)
  have hnm := h.map.ne_cells h.blk
  refine ⟨hb, Rows.frQ h.tree h.low hf fun b hb => ?_, h.low, h.own.fr hf fun b hb => ?_, h.map.fr hf (by simpa using hnm), h.hk, h.hm, h.hv⟩
  · have := h.hk; simp; omega
  · simp; rintro rfl; exact hne ‹_›
end

def mustL (x : Bool) (s : Lk) : Lk := { s with bad := s.bad || !x }

theorem must_ok {B kb mr : Nat} {At : Option Addr} {ct : Nat} {t : List Nd} {vs : Value} {s : Lk} {w : World} (h : LK B kb mr At ct t vs s w) (x : Bool) :
    Ret Tryz.prog 47 [kp kb, .bool x] w [kb] fun v w' => v = .bool (!(mustL x s).bad) ∧ LK B kb mr At ct t vs (mustL x s) w' := by
  refine fn_go (cx_ok 21 []) wideOrders Tryz.func47 rfl rfl Tryz.call47 (by simp [cx]) ?_; conv => whnf
  refine EvLd.blk h.blk rfl ?_
  conv => whnf
  refine EvSplit.any (fun h1 => ?_) (fun h1 => ?_)
  · conv => whnf
    refine EvSt.blk h.blk rfl rfl (by simp [rsOf]) fun w1 hF hB => ?_
    conv => whnf
    refine EvLd.blk hB rfl ?_
    conv => whnf
    have e : mustL x s = { s with bad := true } := by simp [mustL, h1]
    rw [e]
    exact ⟨hF, rfl, h.blk' hF hB⟩
  · conv => whnf
    refine EvSt.blk h.blk rfl rfl (by simp [rsOf]) fun w1 hF hB => ?_
    conv => whnf
    refine EvLd.blk hB rfl ?_
    conv => whnf
    have e : mustL x s = { s with bad := !x } := by simp [mustL, h1]
    rw [e]
    exact ⟨hF, rfl, h.blk' hF hB⟩

theorem EvIdx.nd {w : World} {A : Option Addr} {t : List Nd} (h : NodesAt w A t) {n : Nat} {i : Nat} {K : Addr → Prop} (h1 : i < t.length) (hn : n = t.length) (k : ∀ a, A = some a → K (a.add (i * 7))) : EvIdx A n (i : Int) 7 K :=
  EvIdx.node h (by omega) (by omega) hn fun a ha => by rw [Int.toNat_natCast]; exact k a ha
theorem EvLdN.nd {w : World} {A : Option Addr} {t : List Nd} (h : NodesAt w A t) {a : Addr} (ha : A = some a) {i n : Nat} (hi : i < t.length) {K : List Value → Prop} (hn : n = 7) (k : K t[i].cells) : EvLdN w (a.add (i * 7)) n K :=
  ⟨_, by rw [hn]; rfl, fun j v hj => h.cell ha hi j hj, k⟩

/-- What 'like' looks at. -/
def likeB (x : Nd) (kind n m : Int) : Bool := x.kind == kind && x.n == n && x.m == m && decide (x.at_ ≥ 0) && (x.text.toList == (⟨#[]⟩ : ByteArray).toList || x.op == 52)

theorem like_ok {B kb mr : Nat} {At : Option Addr} {ct : Nat} {t : List Nd} {vs : Value} {s : Lk} {w : World} (h : LK B kb mr At ct t vs s w) {at_ : Nat} (hat : at_ < t.length) (kind n m : Int) :
    Ret Tryz.prog 49 [kp kb, .int .i64 at_, .int .i8 kind, .int .i64 n, .int .i64 m] w [kb] fun v w' => v = .bool (!(mustL (likeB t[at_] kind n m) s).bad) ∧ LK B kb mr At ct t vs (mustL (likeB t[at_] kind n m) s) w' := by
  refine fn_go (cx_ok 52 []) wideOrders Tryz.func49 rfl rfl Tryz.call49 (by simp [cx]) ?_; conv => whnf
  refine EvLd.blk h.blk rfl ?_
  conv => whnf
  refine EvIdx.nd h.tree hat rfl fun a ha => ?_
  conv => whnf
  refine EvLdN.nd h.tree ha hat rfl ?_
  conv => whnf
  have hF := Fr.refl [] w
  refine EvNew.blk fun r1 w hr_r1 hz_r1 hFx hB_r1 => ?_; replace hF := (hF).trans hFx; have hlt_r1 := hFx.size; conv => whnf
  intro w hFx hBx; replace hF := (hF).trans' hFx (by simp; omega); conv => whnf
  have h' := h.fr0 hF
  have fin : ∀ b, b = likeB t[at_] kind n m → Ret Tryz.prog 47 [kp kb, .bool b] w [kb] fun v w' => v = .bool (!(mustL (likeB t[at_] kind n m) s).bad) ∧ LK B kb mr At ct t vs (mustL (likeB t[at_] kind n m) s) w' :=
    fun b hb => hb ▸ must_ok h' b
  have hlt := h.blk.lt
  have hne : r1 ≠ kb := by omega
  refine EvSplit.eq (fun h1 => ?_) (fun h1 => ?_)
  rotate_left
  · conv => whnf
    have g1 : false = likeB t[at_] kind n m := by simp [likeB, h1]
    refine EvCall.ret (fin false g1) (by simpa [rsOf] using hne) fun v w3 hF3 hq => ?_
    conv => whnf
    exact ⟨hF.nil.trans hF3, hq⟩
  conv => whnf
  refine EvSplit.eq (fun h2 => ?_) (fun h2 => ?_)
  rotate_left
  · conv => whnf
    have g1 : false = likeB t[at_] kind n m := by simp [likeB, h2]
    refine EvCall.ret (fin false g1) (by simpa [rsOf] using hne) fun v w3 hF3 hq => ?_
    conv => whnf
    exact ⟨hF.nil.trans hF3, hq⟩
  conv => whnf
  refine EvSplit.eq (fun h3 => ?_) (fun h3 => ?_)
  rotate_left
  · conv => whnf
    have g1 : false = likeB t[at_] kind n m := by simp [likeB, h3]
    refine EvCall.ret (fin false g1) (by simpa [rsOf] using hne) fun v w3 hF3 hq => ?_
    conv => whnf
    exact ⟨hF.nil.trans hF3, hq⟩
  conv => whnf
  refine EvSplit.ge (fun h4 => ?_) (fun h4 => ?_)
  rotate_left
  · conv => whnf
    have g1 : false = likeB t[at_] kind n m := by simp [likeB, Int.not_le.2 h4]
    refine EvCall.ret (fin false g1) (by simpa [rsOf] using hne) fun v w3 hF3 hq => ?_
    conv => whnf
    exact ⟨hF.nil.trans hF3, hq⟩
  conv => whnf
  refine EvSplit.any (fun h5 => ?_) (fun h5 => ?_)
  · conv => whnf
    have g1 : true = likeB t[at_] kind n m := by simp only [likeB, h1, h2, h3, h5]; simp [h4]
    refine EvCall.ret (fin _ g1) (by simpa [rsOf] using hne) fun v w3 hF3 hq => ?_
    conv => whnf
    exact ⟨hF.nil.trans hF3, hq⟩
  conv => whnf
  have g1 : (t[at_].op == 52) = likeB t[at_] kind n m := by simp only [likeB, h1, h2, h3, h5]; simp [h4]
  refine EvCall.ret (fin _ g1) (by simpa [rsOf] using hne) fun v w3 hF3 hq => ?_
  conv => whnf
  exact ⟨hF.nil.trans hF3, hq⟩

/-! ### Signs -/
def signL (l : List Sg) (n : Int) : Option Sg := if n < 0 then none else l[n.toNat]?

def zeroSg : List Value := [.string ⟨#[]⟩, .slice none 0 0, .int .i8 0, .nilFunc]
/-- What 'sign' answers. -/
def signV (B : Nat) (l : List Sg) (n : Int) (v : Value) (w : World) : Prop :=
  (∃ s r, signL l n = some s ∧ v = .tuple #[.agg (List.toArray r), .bool true] ∧ SgIn 51 B w r s) ∨ (signL l n = none ∧ v = .tuple #[.agg zeroSg.toArray, .bool false])

theorem sign_ok {B : Nat} {w0 : World} {l : List Sg} {g : Nat} (h : RowsOf w0 (some ⟨g, 0, none⟩) 4 (SgIn 51 B) l) (hB : B ≤ w0.heap.size) (n : Int) :
    Ret Tryz.prog 99 [.slice (some ⟨g, 0, none⟩) l.length l.length, .int .i64 n] w0 [] fun v w' => signV B l n v w' := by
  refine fn_go (cx_ok 19 []) wideOrders Tryz.func99 rfl rfl Tryz.call99 (by simp [cx]) ?_; conv => whnf
  have hF := Fr.refl [] w0
  refine EvNew.blk fun r1 w hr_r1 hz_r1 hFx hB_r1 => ?_; replace hF := (hF).trans hFx; have hlt_r1 := hFx.size; conv => whnf
  refine EvSplit.lt (fun h1 => ?_) (fun h1 => ?_)
  · conv => whnf
    intro w hFx hBx; replace hF := (hF).trans' hFx (by simp; omega); conv => whnf
    refine ⟨hF, .inr ⟨by simp [signL, h1], rfl⟩⟩
  conv => whnf
  refine EvIf.ge (fun h2 => ?_) (fun h2 => ?_)
  · conv => whnf
    intro w hFx hBx; replace hF := (hF).trans' hFx (by simp; omega); conv => whnf
    refine ⟨hF, .inr ⟨?_, rfl⟩⟩
    rw [signL, if_neg (by omega), List.getElem?_eq_none (by omega)]
  conv => whnf
  obtain ⟨i, rfl⟩ : ∃ i : Nat, n = i := ⟨n.toNat, by omega⟩
  have hi : i < l.length := by omega
  refine EvIdx.row (RowsOf.frQ (S := []) (Q := fun _ => True) (fun _ _ h => h.fr hF (by simp)) h (fun _ _ => trivial) hF (by simp)) hi rfl rfl fun a r ha hlr hr hcells => ?_
  conv => whnf
  refine EvLdN.row hcells hlr ?_
  obtain ⟨nm, ga, f, rfl, hg, hle⟩ := hr
  have hne := hg.ne_ty hB_r1 (by decide)
  conv => whnf
  intro w hFx hBx; replace hF := (hF).trans' hFx (by simp; omega); conv => whnf
  refine ⟨hF, .inl ⟨_, _, ?_, rfl, nm, ga, f, rfl, hg.fr hFx (by simpa using hne), hle⟩⟩
  rw [signL, if_neg (by omega), Int.toNat_natCast]; exact List.getElem?_eq_getElem hi

/-- The cells of a sign, found or not. -/
structure SgV where
  nm : ByteArray
  A : Option Addr
  n : Nat
  tell : Int
  fv : Value
  ok : Bool
def SgV.cells (z : SgV) : List Value := [.string z.nm, .slice z.A z.n z.n, .int .i8 z.tell, z.fv]
def SgR (B : Nat) (l : List Sg) (n : Int) (w : World) (z : SgV) : Prop :=
  (∃ sg g f, signL l n = some sg ∧ z.ok = true ∧ z.A = some ⟨g, 0, none⟩ ∧ z.n = sg.args.length ∧ z.tell = sg.tell ∧ z.fv = .func (.func f) #[] #[] ∧ HB w g 51 (sg.args.map fun n => .int .i8 n) ∧ B ≤ g) ∨ (signL l n = none ∧ z.ok = false)
theorem SgR.elim {B : Nat} {l : List Sg} {n : Int} {w : World} {nm : ByteArray} {A : Option Addr} {m : Nat} {tell : Int} {fv : Value} {ok : Bool} (h : SgR B l n w ⟨nm, A, m, tell, fv, ok⟩) :
    (∃ sg g f, signL l n = some sg ∧ ok = true ∧ A = some ⟨g, 0, none⟩ ∧ m = sg.args.length ∧ tell = sg.tell ∧ fv = .func (.func f) #[] #[] ∧ HB w g 51 (sg.args.map fun n => .int .i8 n) ∧ B ≤ g) ∨ (signL l n = none ∧ ok = false) := h
theorem SgR.fr {B : Nat} {l : List Sg} {n : Int} {w w' : World} {z : SgV} {S : List Nat} (h : SgR B l n w z) (hf : Fr S w w') (hs : ∀ b, B ≤ b → b ∉ S) : SgR B l n w' z := by
  rcases h with ⟨sg, g, f, h1, h2, h3, h4, h5, h6, h7, h8⟩ | h
  · exact .inl ⟨sg, g, f, h1, h2, h3, h4, h5, h6, h7.fr hf (hs g h8), h8⟩
  · exact .inr h
/-- All but the args' block may be written. -/
theorem SgR.frT {B T rb : Nat} {cs : List Value} {l : List Sg} {n : Int} {w w' : World} {z : SgV} (h : SgR B l n w z) (hf : Fr [rb] w w') (hb : HB w rb T cs) (hT : 51 ≠ T) : SgR B l n w' z := by
  rcases h with ⟨sg, g, f, h1, h2, h3, h4, h5, h6, h7, h8⟩ | h
  · exact .inl ⟨sg, g, f, h1, h2, h3, h4, h5, h6, h7.fr hf (by simpa using h7.ne_ty hb hT), h8⟩
  · exact .inr h
theorem SgR.weak {B B' : Nat} {l : List Sg} {n : Int} {w : World} {z : SgV} (h : SgR B l n w z) (hb : B' ≤ B) : SgR B' l n w z := by
  rcases h with ⟨sg, g, f, h1, h2, h3, h4, h5, h6, h7, h8⟩ | h
  · exact .inl ⟨sg, g, f, h1, h2, h3, h4, h5, h6, h7, by omega⟩
  · exact .inr h
theorem SgV.one {z : SgV} (h : z.fv.oneCell' = true) : ∀ u ∈ z.cells, u.oneCell' = true := by
  intro u hu
  simp only [SgV.cells, List.mem_cons, List.not_mem_nil, or_false] at hu
  rcases hu with rfl | rfl | rfl | rfl
  · rfl
  · rfl
  · rfl
  · exact h
theorem signV_R {B : Nat} {l : List Sg} {n : Int} {v : Value} {w : World} (h : signV B l n v w) : ∃ z : SgV, v = .tuple #[.agg z.cells.toArray, .bool z.ok] ∧ z.fv.oneCell' = true ∧ SgR B l n w z := by
  rcases h with ⟨s, r, h1, rfl, nm, g, f, rfl, h2, h3⟩ | ⟨h1, rfl⟩
  · exact ⟨⟨nm, some ⟨g, 0, none⟩, s.args.length, s.tell, .func (.func f) #[] #[], true⟩, rfl, rfl, .inl ⟨s, g, f, h1, rfl, rfl, rfl, rfl, rfl, h2, h3⟩⟩
  · exact ⟨⟨⟨#[]⟩, none, 0, 0, .nilFunc, false⟩, rfl, rfl, .inr ⟨h1, rfl⟩⟩

/-! ### Operators, texts -/
def operOf (op : Int) : Int := if op = 35 ∨ (44 ≤ op ∧ op ≤ 48) ∨ (40 ≤ op ∧ op ≤ 43) then 1 else 2
def operTo (op : Int) : Int := if op = 35 ∨ (44 ≤ op ∧ op ≤ 48) then 1 else 2

theorem operator_ok (op : Int) (w : World) : Ret Tryz.prog 129 [.int .i8 op] w [] fun v w' => v = .tuple #[.int .i8 (operOf op), .int .i8 (operTo op)] ∧ w' = w := by
  refine fn_go (cx_ok 22 []) wideOrders Tryz.func129 rfl rfl Tryz.call129 (by simp [cx]) ?_; conv => whnf
  have d1 : ∀ a b c d : Int, a = c → b = d → Value.tuple #[.int .i8 a, .int .i8 b] = .tuple #[.int .i8 c, .int .i8 d] := by rintro _ _ _ _ rfl rfl; rfl
  refine EvSplit.eq (fun h1 => ?_) (fun h1 => ?_)
  · conv => whnf
    exact ⟨Fr.refl _ _, d1 _ _ _ _ (by unfold operOf; split <;> omega) (by unfold operTo; split <;> omega), rfl⟩
  conv => whnf
  refine EvSplit.ge (fun h2 => ?_) (fun h2 => ?_)
  · conv => whnf
    refine EvIf.le (fun h3 => ?_) (fun h3 => ?_)
    · conv => whnf
      exact ⟨Fr.refl _ _, d1 _ _ _ _ (by unfold operOf; split <;> omega) (by unfold operTo; split <;> omega), rfl⟩
    · conv => whnf
      refine EvSplit.ge (fun h4 => ?_) (fun h4 => ?_)
      · conv => whnf
        refine EvIf.le (fun h5 => ?_) (fun h5 => ?_)
        · conv => whnf
          exact ⟨Fr.refl _ _, d1 _ _ _ _ (by unfold operOf; split <;> omega) (by unfold operTo; split <;> omega), rfl⟩
        · conv => whnf
          exact ⟨Fr.refl _ _, d1 _ _ _ _ (by unfold operOf; split <;> omega) (by unfold operTo; split <;> omega), rfl⟩
      · conv => whnf
        exact ⟨Fr.refl _ _, d1 _ _ _ _ (by unfold operOf; split <;> omega) (by unfold operTo; split <;> omega), rfl⟩
  · conv => whnf
    refine EvSplit.ge (fun h4 => ?_) (fun h4 => ?_)
    · conv => whnf
      refine EvIf.le (fun h5 => ?_) (fun h5 => ?_)
      · conv => whnf
        exact ⟨Fr.refl _ _, d1 _ _ _ _ (by unfold operOf; split <;> omega) (by unfold operTo; split <;> omega), rfl⟩
      · conv => whnf
        exact ⟨Fr.refl _ _, d1 _ _ _ _ (by unfold operOf; split <;> omega) (by unfold operTo; split <;> omega), rfl⟩
    · conv => whnf
      exact ⟨Fr.refl _ _, d1 _ _ _ _ (by unfold operOf; split <;> omega) (by unfold operTo; split <;> omega), rfl⟩

def rightL (s : ByteArray) : Bool := s.data.toList.all (fun b => decide (32 ≤ b.toNat) && decide (b.toNat ≤ 126)) && decide (s.size ≤ 64)

theorem byte_get (s : ByteArray) {i : Nat} (hi : i < s.size) : s[i]? = some s.data[i] := by
  have h : i < s.data.size := hi
  show (if h : i < s.size then some s[i] else none) = _
  rw [dif_pos hi]; rfl

theorem right_ok (s : ByteArray) (w : World) (h47 : s.size ≤ 140737488355328) : Ret Tryz.prog 126 [.string s] w [] fun v w' => v = .bool (rightL s) ∧ w' = w := by
  have hsz : s.data.toList.length = s.size := Array.length_toList
  refine fn_go (cx_ok 23 []) wideOrders Tryz.func126 rfl rfl Tryz.call126 (by simp [cx]) ?_; conv => whnf
  refine EvLoop.go Nat (fun i => ⟨[(0, .v (.string s)), (5, .v (.int .i64 s.size)), (6, .v (.int .i64 i))], [], 0⟩) (fun i w' => w' = w ∧ i ≤ s.size ∧ ∀ b ∈ s.data.toList.take i, 32 ≤ b.toNat ∧ b.toNat ≤ 126) (fun i => s.size - i) 0 (by (refine SubS.mk ?_ ?_ <;> (repeat' (first | exact True.intro | refine And.intro ?_ ?_)) <;> (first | rfl | exact svi (by omega) | exact List.mem_cons_self | exact List.mem_cons_of_mem _ List.mem_cons_self | exact List.mem_cons_of_mem _ (List.mem_cons_of_mem _ List.mem_cons_self) | skip)))
    ⟨rfl, by omega, by simp⟩ ?_
  rintro i w' ⟨rfl, h1, h2⟩
  conv => whnf
  refine EvIf.lt (fun hlt => ?_) (fun hge => ?_)
  · have hi : i < s.size := by omega
    have hm : s.data[i]'hi ∈ s.data.toList := by simp
    conv => whnf
    refine EvStr.go (by omega) (by rw [Int.toNat_natCast]; exact byte_get s hi) ?_
    conv => whnf
    refine EvSplit.lt (fun h3 => ?_) (fun h3 => ?_)
    · conv => whnf
      refine ⟨Fr.refl _ _, ?_, rfl⟩
      have e : rightL s = false := by
        unfold rightL
        rw [Bool.and_eq_false_iff]; left
        rw [List.all_eq_false]
        refine ⟨_, hm, ?_⟩
        simp; omega
      rw [e]; rfl
    · conv => whnf
      refine EvStr.go (by omega) (by rw [Int.toNat_natCast]; exact byte_get s hi) ?_
      conv => whnf
      refine EvIf.gt (fun h4 => ?_) (fun h4 => ?_)
      · conv => whnf
        refine ⟨Fr.refl _ _, ?_, rfl⟩
        have e : rightL s = false := by
          unfold rightL
          rw [Bool.and_eq_false_iff]; left
          rw [List.all_eq_false]
          refine ⟨_, hm, ?_⟩
          simp; omega
        rw [e]; rfl
      · conv => whnf
        refine EvAr.i64 (by omega) ?_; conv => whnf
        refine ⟨i + 1, by (refine SubS.mk ?_ ?_ <;> (repeat' (first | exact True.intro | refine And.intro ?_ ?_)) <;> (first | rfl | exact svi (by omega) | exact List.mem_cons_self | exact List.mem_cons_of_mem _ List.mem_cons_self | exact List.mem_cons_of_mem _ (List.mem_cons_of_mem _ List.mem_cons_self) | skip)), ⟨rfl, hi, ?_⟩, by omega⟩
        intro b hb
        rw [List.take_succ_eq_append_getElem (by omega)] at hb
        rcases List.mem_append.1 hb with hb | hb
        · exact h2 b hb
        · simp at hb; subst hb; omega
  · conv => whnf
    obtain rfl : i = s.size := by omega
    refine ⟨Fr.refl _ _, ?_, rfl⟩
    have e : s.data.toList.all (fun b => decide (32 ≤ b.toNat) && decide (b.toNat ≤ 126)) = true := by
      rw [List.all_eq_true]
      intro b hb
      have := h2 b (by rw [List.take_of_length_le (by omega)]; exact hb)
      simp; omega
    unfold rightL
    rw [e]
    show Value.bool _ = Value.bool _
    simp only [Bool.true_and]
    congr 1
    exact decide_eq_decide.2 (by omega)
end Go.Proofs.Tab
