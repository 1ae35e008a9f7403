/- The helpers that copy slices. No condition. -/
import Derived.Test.YtmjalmocaiokhaaGreatDatB
import Derived.Test.YtmjalmocaiokhaaGreatTree
set_option linter.unusedVariables false
set_option linter.unusedSimpArgs false
namespace Go.Proofs.Tab
open Go Go.Fw

theorem Own.rowsR {w : World} {T sz n : Nat} {v : Value} {rows : List (List Value)} (h : Own w T sz v n rows.flatten) (hs : ∀ r ∈ rows, r.length = sz) (hn : rows.length = n) : ∃ A c, v = .slice A n c ∧ Fw.Rows w A sz rows := by
  obtain ⟨A, c, rfl, _⟩ := h.form
  exact ⟨A, c, rfl, Own.rows h rfl hs hn⟩

theorem length_flatten_rows {sz : Nat} : ∀ (rows : List (List Value)), (∀ r ∈ rows, r.length = sz) → rows.flatten.length = rows.length * sz
  | [], _ => by simp
  | r :: rows, h => by
    rw [List.flatten_cons, List.length_append, length_flatten_rows rows fun x hx => h x (List.mem_cons_of_mem _ hx), h r List.mem_cons_self, List.length_cons, Nat.succ_mul]; omega

theorem flatten_get {sz : Nat} (hpos : 0 < sz) : ∀ (rows : List (List Value)), (∀ r ∈ rows, r.length = sz) → ∀ j u, rows.flatten[j]? = some u → ∃ r, rows[j / sz]? = some r ∧ r[j % sz]? = some u
  | [], _, j, u, h => by simp at h
  | r :: rows, hs, j, u, h => by
    have hr := hs r List.mem_cons_self
    rw [List.flatten_cons, List.getElem?_append] at h
    by_cases hj : j < sz
    · rw [if_pos (by omega)] at h
      exact ⟨r, by rw [Nat.div_eq_of_lt hj]; rfl, by rw [Nat.mod_eq_of_lt hj]; exact h⟩
    · rw [if_neg (by omega), hr] at h
      obtain ⟨r', g1, g2⟩ := flatten_get hpos rows (fun x hx => hs x (List.mem_cons_of_mem _ hx)) _ _ h
      refine ⟨r', ?_, ?_⟩
      · rw [show j / sz = (j - sz) / sz + 1 by rw [← Nat.add_div_right _ hpos, Nat.sub_add_cancel (by omega)]]
        simpa using g1
      · rw [Nat.mod_eq_sub_mod (by omega : j ≥ sz)]; exact g2

/-- append of rows onto nil: 'append(c, l...)' -/
theorem EvApp.rows {P : Program} {C : Ctx} (hC : COk C P) {w : World} {L : List Nat} {t e ty sz bt : Nat} {zero : List Value} (ht : (C.ty t).cls = .slice e) (el : El C e sz bt zero) (hpos : 0 < sz) (hz : zero.length = sz)
    {v : Value} {n : Nat} {xs : List Value} (hown : Own w e sz v n xs) {A : Option Addr} {m c : Nat} {rows : List (List Value)} (hr : Fw.Rows w A sz rows) (hm : m = rows.length) (h1 : ∀ r ∈ rows, ∀ u ∈ r, u.oneCell' = true)
    (hb : (n + m) * bt ≤ 140737488355328) (h63 : n + m ≤ maxLen) (hL : ∀ r ∈ L, v.ownBlock ≠ some r) {K : Value → World → Prop}
    (k : ∀ v' w', Own w' e sz v' (n + m) (xs ++ rows.flatten) → Fr v.ownBlock.toList w w' → (v'.ownBlock = v.ownBlock ∨ v'.ownBlock = some w.heap.size) → K v' w') :
    EvPrim P w (Builtin.append_ #[t, t] ty #[v, .slice A m c]) L K := by
  refine EvApp.own hC ht el hpos hz hown (news := rows.flatten) (by rw [hm]; exact length_flatten_rows rows hr.1) ?_ ?_ hb h63 hL k
  · intro h0
    obtain ⟨a, ha, _⟩ := hr.at_ (by omega)
    refine ⟨a, ha, fun j u hj => ?_⟩
    obtain ⟨r, g1, g2⟩ := flatten_get hpos rows hr.1 j u hj
    have := hr.cell ha g1 g2
    rwa [Nat.mul_comm, Nat.div_add_mod] at this
  · intro u hu
    obtain ⟨r, hr1, hr2⟩ := List.mem_flatten.1 hu
    exact h1 r hr1 u hr2

theorem copyLongs_ok (A : Option Addr) (n c : Nat) (rows : List (List Value)) (w : World) (hr : Fw.Rows w A 1 rows) (hn : n = rows.length) (h1 : ∀ r ∈ rows, ∀ u ∈ r, u.oneCell' = true) (hb : n * 8 ≤ 140737488355328) :
    Ret Tryz.prog 11 [.slice A n c] w [] fun v w' => Own w' 2 1 v n rows.flatten ∧ (∀ b, v.ownBlock = some b → w.heap.size ≤ b) := by
  refine fn_go (cx_ok 7 []) wideOrders Tryz.func11 rfl rfl Tryz.call11 (by simp [cx]) ?_; conv => whnf
  refine EvApp.rows (cx_ok 0 []) rfl (⟨rfl, rfl, rfl, rfl⟩ : El (cx 0 []) 2 1 8 [.int .i64 0]) (by omega) rfl Own.nil hr hn h1 (by omega) (by simp [maxLen]; omega) (by simp [rsOf]) fun v w1 hown hF hat => ?_
  conv => whnf
  refine ⟨hF, ?_, ?_⟩
  · simpa [tupX] using hown
  · intro b hb'
    rcases hat with e | e
    · rw [show (tupX [v]).ownBlock = v.ownBlock from rfl, e] at hb'; cases hb'
    · rw [show (tupX [v]).ownBlock = v.ownBlock from rfl, e] at hb'; injection hb' with hb'; omega

theorem copyTexts_ok (A : Option Addr) (n c : Nat) (rows : List (List Value)) (w : World) (hr : Fw.Rows w A 1 rows) (hn : n = rows.length) (h1 : ∀ r ∈ rows, ∀ u ∈ r, u.oneCell' = true) (hb : n * 16 ≤ 140737488355328) :
    Ret Tryz.prog 12 [.slice A n c] w [] fun v w' => Own w' 9 1 v n rows.flatten ∧ (∀ b, v.ownBlock = some b → w.heap.size ≤ b) := by
  refine fn_go (cx_ok 7 []) wideOrders Tryz.func12 rfl rfl Tryz.call12 (by simp [cx]) ?_; conv => whnf
  refine EvApp.rows (cx_ok 0 []) rfl (⟨rfl, rfl, rfl, rfl⟩ : El (cx 0 []) 9 1 16 [.string ⟨#[]⟩]) (by omega) rfl Own.nil hr hn h1 (by omega) (by simp [maxLen]; omega) (by simp [rsOf]) fun v w1 hown hF hat => ?_
  conv => whnf
  refine ⟨hF, ?_, ?_⟩
  · simpa [tupX] using hown
  · intro b hb'
    rcases hat with e | e
    · rw [show (tupX [v]).ownBlock = v.ownBlock from rfl, e] at hb'; cases hb'
    · rw [show (tupX [v]).ownBlock = v.ownBlock from rfl, e] at hb'; injection hb' with hb'; omega

theorem copySmalls_ok (A : Option Addr) (n c : Nat) (rows : List (List Value)) (w : World) (hr : Fw.Rows w A 1 rows) (hn : n = rows.length) (h1 : ∀ r ∈ rows, ∀ u ∈ r, u.oneCell' = true) (hb : n * 1 ≤ 140737488355328) :
    Ret Tryz.prog 25 [.slice A n c] w [] fun v w' => Own w' 51 1 v n rows.flatten ∧ (∀ b, v.ownBlock = some b → w.heap.size ≤ b) := by
  refine fn_go (cx_ok 7 []) wideOrders Tryz.func25 rfl rfl Tryz.call25 (by simp [cx]) ?_; conv => whnf
  refine EvApp.rows (cx_ok 0 []) rfl (⟨rfl, rfl, rfl, rfl⟩ : El (cx 0 []) 51 1 1 [.int .i8 0]) (by omega) rfl Own.nil hr hn h1 (by omega) (by simp [maxLen]; omega) (by simp [rsOf]) fun v w1 hown hF hat => ?_
  conv => whnf
  refine ⟨hF, ?_, ?_⟩
  · simpa [tupX] using hown
  · intro b hb'
    rcases hat with e | e
    · rw [show (tupX [v]).ownBlock = v.ownBlock from rfl, e] at hb'; cases hb'
    · rw [show (tupX [v]).ownBlock = v.ownBlock from rfl, e] at hb'; injection hb' with hb'; omega

theorem copyNodes_ok (A : Option Addr) (n c : Nat) (rows : List (List Value)) (w : World) (hr : Fw.Rows w A 7 rows) (hn : n = rows.length) (h1 : ∀ r ∈ rows, ∀ u ∈ r, u.oneCell' = true) (hb : n * 56 ≤ 140737488355328) :
    Ret Tryz.prog 26 [.slice A n c] w [] fun v w' => Own w' 53 7 v n rows.flatten ∧ (∀ b, v.ownBlock = some b → w.heap.size ≤ b) := by
  refine fn_go (cx_ok 7 []) wideOrders Tryz.func26 rfl rfl Tryz.call26 (by simp [cx]) ?_; conv => whnf
  refine EvApp.rows (cx_ok 0 []) rfl (⟨rfl, rfl, rfl, rfl⟩ : El (cx 0 []) 53 7 56 [.int .i8 0, .int .i8 0, .int .i64 0, .int .i64 0, .string ⟨#[]⟩, .int .i64 0, .int .i64 0]) (by omega) rfl Own.nil hr hn h1 (by omega) (by simp [maxLen]; omega) (by simp [rsOf]) fun v w1 hown hF hat => ?_
  conv => whnf
  refine ⟨hF, ?_, ?_⟩
  · simpa [tupX] using hown
  · intro b hb'
    rcases hat with e | e
    · rw [show (tupX [v]).ownBlock = v.ownBlock from rfl, e] at hb'; cases hb'
    · rw [show (tupX [v]).ownBlock = v.ownBlock from rfl, e] at hb'; injection hb' with hb'; omega

theorem copyBytes_ok (A : Option Addr) (n c : Nat) (rows : List (List Value)) (w : World) (hr : Fw.Rows w A 1 rows) (hn : n = rows.length) (h1 : ∀ r ∈ rows, ∀ u ∈ r, u.oneCell' = true) (hb : n * 1 ≤ 140737488355328) :
    Ret Tryz.prog 28 [.slice A n c] w [] fun v w' => Own w' 5 1 v n rows.flatten ∧ (∀ b, v.ownBlock = some b → w.heap.size ≤ b) := by
  refine fn_go (cx_ok 7 []) wideOrders Tryz.func28 rfl rfl Tryz.call28 (by simp [cx]) ?_; conv => whnf
  refine EvApp.rows (cx_ok 0 []) rfl (⟨rfl, rfl, rfl, rfl⟩ : El (cx 0 []) 5 1 1 [.int .u8 0]) (by omega) rfl Own.nil hr hn h1 (by omega) (by simp [maxLen]; omega) (by simp [rsOf]) fun v w1 hown hF hat => ?_
  conv => whnf
  refine ⟨hF, ?_, ?_⟩
  · simpa [tupX] using hown
  · intro b hb'
    rcases hat with e | e
    · rw [show (tupX [v]).ownBlock = v.ownBlock from rfl, e] at hb'; cases hb'
    · rw [show (tupX [v]).ownBlock = v.ownBlock from rfl, e] at hb'; injection hb' with hb'; omega

theorem smallsOf {w : World} {v : Value} {xs : List Int} {n : Nat} {Q : Nat → Prop} (h : Own w 51 1 v n (xs.map fun x => [Value.int .i8 x]).flatten) (hn : n = xs.length) (hq : ∀ b, v.ownBlock = some b → Q b) :
    ∃ A c, v = .slice A xs.length c ∧ SmallsAt w A xs ∧ OnQ Q A := by
  obtain ⟨A, c, rfl, h2⟩ := Own.rowsR h (by simp) (by simp [hn])
  exact ⟨A, c, by rw [hn], h2, fun x hx => hq _ (by rw [hx]; rfl)⟩
theorem nodesOf {w : World} {v : Value} {xs : List Nd} {n : Nat} {Q : Nat → Prop} (h : Own w 53 7 v n (xs.map Nd.cells).flatten) (hn : n = xs.length) (hq : ∀ b, v.ownBlock = some b → Q b) :
    ∃ A c, v = .slice A xs.length c ∧ NodesAt w A xs ∧ OnQ Q A := by
  obtain ⟨A, c, rfl, h2⟩ := Own.rowsR h (by intro r hr; obtain ⟨x, _, rfl⟩ := List.mem_map.1 hr; rfl) (by simp [hn])
  exact ⟨A, c, by rw [hn], h2, fun x hx => hq _ (by rw [hx]; rfl)⟩
theorem textsOf {w : World} {v : Value} {xs : List ByteArray} {n : Nat} {Q : Nat → Prop} (h : Own w 9 1 v n (xs.map fun x => [Value.string x]).flatten) (hn : n = xs.length) (hq : ∀ b, v.ownBlock = some b → Q b) :
    ∃ A c, v = .slice A xs.length c ∧ TextsAt w A xs ∧ OnQ Q A := by
  obtain ⟨A, c, rfl, h2⟩ := Own.rowsR h (by simp) (by simp [hn])
  exact ⟨A, c, by rw [hn], h2, fun x hx => hq _ (by rw [hx]; rfl)⟩

theorem copyAb_ok (r : List Value) (a : Ab) (w0 : World) (ha : AbAt w0 r a) (hs1 : a.slots.length ≤ 1073741824) (hs2 : a.tree.length ≤ 1073741824) :
    Ret Tryz.prog 10 [.agg r.toArray] w0 [] fun v w' => ∃ r', v = .agg r'.toArray ∧ AbIn (fun b => w0.heap.size ≤ b ∧ b < w'.heap.size) w' r' a := by
  obtain ⟨As, cs, At, ct, rfl, h1, h2, _, _⟩ := ha
  refine fn_go (cx_ok 12 []) wideOrders Tryz.func10 rfl rfl Tryz.call10 (by simp [cx]) ?_; conv => whnf
  have hF := Fr.refl [] w0
  refine EvNew.blk fun r1 w hr_r1 hz_r1 hFx hB_r1 => ?_; replace hF := (hF).trans hFx; have hlt_r1 := hFx.size; conv => whnf
  refine EvNew.blk fun r2 w hr_r2 hz_r2 hFx hB_r2 => ?_; replace hF := (hF).trans hFx; have hlt_r2 := hFx.size; conv => whnf
  have hlo : w0.heap.size ≤ w.heap.size ∧ r1 < w.heap.size ∧ r2 < w.heap.size := by omega
  refine EvCall.ret0 (copySmalls_ok As _ cs _ w (h1.fr0 hF) (by simp) (by simp [Value.oneCell']) (by omega)) fun v w4 hFx hq => ?_
  obtain ⟨hq, hob⟩ := hq
  obtain ⟨As', cs', rfl, h1', hQ1⟩ := smallsOf (Q := fun b => w0.heap.size ≤ b ∧ b < w4.heap.size ∧ b ∉ [r1, r2]) hq rfl (fun b hb => by have := hob b hb; have := hq.lt hb; simp; omega)
  replace hF := hF.trans hFx
  have h2' := h2.fr0 hF
  have hG := Fr.refl [r1, r2] w4
  have hsz := hFx.size
  clear hq hob
  conv => whnf
  intro w hFx hBx; replace hF := (hF).trans' hFx (by simp; omega); conv => whnf
  replace hG := hG.trans (hFx.mono (by simp))
  refine EvCall.ret0 (copyNodes_ok At _ ct _ w (h2.fr0 hF) (by simp) (by simp [Nd.cells, Value.oneCell']) (by omega)) fun v w6 hFy hq => ?_
  obtain ⟨hq, hob⟩ := hq
  have hsz2 := hG.size
  obtain ⟨At', ct', rfl, h3', hQ2⟩ := nodesOf (Q := fun b => w0.heap.size ≤ b ∧ b < w6.heap.size ∧ b ∉ [r1, r2]) hq rfl (fun b hb => by have := hob b hb; have := hq.lt hb; simp; omega)
  replace hF := hF.trans hFy
  replace hG := hG.trans (hFy.mono (by simp))
  have hH := Fr.refl [r1, r2] w6
  clear hq hob
  conv => whnf
  intro w hFx hBx; replace hF := (hF).trans' hFx (by simp; omega); conv => whnf
  replace hG := hG.trans (hFx.mono (by simp))
  replace hH := hH.trans (hFx.mono (by simp))
  intro w hFx hBx; replace hF := (hF).trans' hFx (by simp; omega); conv => whnf
  replace hG := hG.trans (hFx.mono (by simp))
  replace hH := hH.trans (hFx.mono (by simp))
  exact ⟨hF, _, rfl, As', cs', At', ct', rfl, Rows.frQ h1' hQ1 hG fun b hb => hb.2.2, Rows.frQ h3' hQ2 hH fun b hb => hb.2.2, hQ1.imp fun b hb => ⟨hb.1, Nat.lt_of_lt_of_le hb.2.1 hG.size⟩, hQ2.imp fun b hb => ⟨hb.1, Nat.lt_of_lt_of_le hb.2.1 hH.size⟩⟩

/-- Blocks that are new since w0, stand in w, and are not the growing slice's own. -/
def Fresh (w0 w : World) (v : Value) (b : Nat) : Prop := w0.heap.size ≤ b ∧ b < w.heap.size ∧ v.ownBlock ≠ some b

theorem Ab.cells_len (a : Ab) (As : Option Addr) (cs : Nat) (At : Option Addr) (ct : Nat) : (a.cells As cs At ct).length = 4 := rfl
theorem AbIn.len {Q : Nat → Prop} {w : World} {r : List Value} {a : Ab} (h : AbIn Q w r a) : r.length = 4 := by obtain ⟨_, _, _, _, rfl, _⟩ := h; rfl
theorem AbIn.one {Q : Nat → Prop} {w : World} {r : List Value} {a : Ab} (h : AbIn Q w r a) : ∀ u ∈ r, u.oneCell' = true := by obtain ⟨_, _, _, _, rfl, _⟩ := h; simp [Ab.cells, Value.oneCell']
theorem DsIn.len {Q : Nat → Prop} {w : World} {r : List Value} {a : Ds} (h : DsIn Q w r a) : r.length = 6 := by obtain ⟨_, _, _, _, rfl, _⟩ := h; rfl
theorem DsIn.one {Q : Nat → Prop} {w : World} {r : List Value} {a : Ds} (h : DsIn Q w r a) : ∀ u ∈ r, u.oneCell' = true := by obtain ⟨_, _, _, _, rfl, _⟩ := h; simp [Ds.cells, Value.oneCell']

def SmCAb (a : Ab) : Prop := a.slots.length ≤ 1073741824 ∧ a.tree.length ≤ 1073741824
def SmCDs (d : Ds) : Prop := d.tags.length ≤ 1073741824 ∧ d.able.length ≤ 1073741824 ∧ ∀ a ∈ d.able, SmCAb a

structure AbsInv (w0 : World) (l : List Ab) (i : Nat) (v : Value) (w : World) : Prop where
  le : i ≤ l.length
  fr : Fr [] w0 w
  own : ∃ rows : List (List Value), Own w 37 4 v i rows.flatten ∧ rows.length = i ∧ ∀ (j : Nat) (r : List Value) (a : Ab), rows[j]? = some r → l[j]? = some a → AbIn (Fresh w0 w v) w r a
  new : ∀ b, v.ownBlock = some b → w0.heap.size ≤ b

theorem copyAbs_ok (A : Option Addr) (c : Nat) (l : List Ab) (w0 : World) (hl : AbsAt w0 A l) (hn : l.length ≤ 1073741824) (hs : ∀ a ∈ l, SmCAb a) :
    Ret Tryz.prog 33 [.slice A l.length c] w0 [] fun v w' => ∃ A' c', v = .slice A' l.length c' ∧ AbsIn (fun b => w0.heap.size ≤ b ∧ b < w'.heap.size) w' A' l := by
  refine fn_go (cx_ok 20 []) wideOrders Tryz.func33 rfl rfl Tryz.call33 (by simp [cx]) ?_; conv => whnf
  refine EvLoop.go (Nat × Value) (fun (i, v) => ⟨[(0, .v (.slice A l.length c)), (3, .v v), (4, .v (.int .i64 i))], [], 0⟩) (fun x w => AbsInv w0 l x.1 x.2 w) (fun x => l.length - x.1) (0, .slice none 0 0) (by (refine SubS.mk ?_ ?_ <;> (repeat' (first | exact True.intro | refine And.intro ?_ ?_)) <;> (first | rfl | exact svi (by omega) | exact List.mem_cons_self | exact List.mem_cons_of_mem _ List.mem_cons_self | exact List.mem_cons_of_mem _ (List.mem_cons_of_mem _ List.mem_cons_self) | skip)))
    ⟨Nat.zero_le _, Fr.refl [] w0, ⟨[], Own.nil, rfl, by simp⟩, by simp [Value.ownBlock]⟩ ?_
  rintro ⟨i, v⟩ w ⟨hle, hF, ⟨rows, hown, hrl, hrs⟩, hnew⟩
  dsimp only at hle hF hown hrl hrs hnew
  conv => whnf
  refine EvIf.lt (fun hlt => ?_) (fun hge => ?_)
  · conv => whnf
    refine EvIdx.row (hl.fr0 hF).1 (by omega) rfl rfl fun a r ha hlr hr hcells => ?_
    have hi : i < l.length := by omega
    conv => whnf
    refine EvLdN.row hcells hlr ?_
    conv => whnf
    have hm := hs _ (List.getElem_mem hi)
    refine EvCall.ret0 (copyAb_ok _ _ w (hr.imp fun _ _ => trivial) hm.1 hm.2) fun u w1 hF1 hq => ?_
    obtain ⟨_, rfl, hq⟩ := hq
    have hq' := hq
    obtain ⟨As', cs', At', ct', rfl, _⟩ := hq'
    conv => whnf
    refine EvNew.blk fun g w2 hg hz hF2 hB => ?_
    conv => whnf
    refine EvApp.lit (cx_ok 0 []) rfl (⟨rfl, rfl, rfl, rfl⟩ : El (cx 0 []) 37 4 64 _) (by omega) rfl ((hown.fr0 hF1).fr0 hF2) (m := 1) hB rfl (AbIn.one hq) (by omega) (by simp [maxLen]; omega) (by simp [rsOf]) fun v' w3 hown' hF3 hat => ?_
    conv => whnf
    refine EvAr.i64 (by omega) ?_; conv => whnf
    refine ⟨(i + 1, v'), by (refine SubS.mk ?_ ?_ <;> (repeat' (first | exact True.intro | refine And.intro ?_ ?_)) <;> (first | rfl | exact svi (by omega) | exact List.mem_cons_self | exact List.mem_cons_of_mem _ List.mem_cons_self | exact List.mem_cons_of_mem _ (List.mem_cons_of_mem _ List.mem_cons_self) | skip)), ⟨hi, ?_, ⟨rows ++ [l[i].cells As' cs' At' ct'], by rw [List.flatten_append, List.flatten_singleton]; exact hown', by simp [hrl], ?_⟩, ?_⟩, by dsimp only; omega⟩
    · refine ((hF.trans hF1).trans hF2).trans' hF3 fun x hx hlt' => absurd (hnew x (toList_some.1 hx)) (by omega)
    · have hs1 := hF1.size
      have hs3 := hF3.size
      have hs0 := hF.size
      intro j r a hj ha
      rw [List.getElem?_append] at hj
      split at hj
      · exact (((hrs j r a hj ha).fr0 hF1).fr0 hF2 |>.fr hF3 fun b hb hm => hb.2.2 (toList_some.1 hm)).imp fun b hb => ⟨hb.1, by have := hb.2.1; omega, fun hv => by
          rcases hat with e | e
          · exact hb.2.2 (e ▸ hv)
          · rw [e] at hv; injection hv with hv; have := hb.2.1; omega⟩
      · rename_i hjl
        have hj0 : j - rows.length = 0 := by
          have := (List.getElem?_eq_some_iff.1 hj).1
          simp at this; omega
        rw [hj0] at hj
        injection hj with hj
        subst hj
        have hjl : j = i := by omega
        subst hjl
        rw [List.getElem?_eq_getElem hi] at ha
        injection ha with ha
        subst ha
        have hvlt : ∀ b, v.ownBlock = some b → b < w.heap.size := fun b hb => hown.lt hb
        refine ((hq.fr0 hF2).fr hF3 fun b hb hm => ?_).imp fun b hb => ⟨by omega, by omega, fun hv => ?_⟩
        · have := hvlt b (toList_some.1 hm); omega
        · rcases hat with e | e
          · have := hvlt b (e ▸ hv); omega
          · rw [e] at hv; injection hv with hv; omega
    · intro b hb
      rcases hat with e | e
      · exact hnew b (e ▸ hb)
      · rw [e] at hb; injection hb with hb
        have hs1 := hF1.size
        have hs0 := hF.size
        omega
  · conv => whnf
    obtain rfl : i = l.length := by omega
    obtain ⟨A', c', rfl, hr⟩ := Own.rowsR hown (fun r hr => by
      obtain ⟨j, hj, rfl⟩ := List.getElem_of_mem hr
      exact AbIn.len (hrs j _ _ (List.getElem?_eq_getElem hj) (List.getElem?_eq_getElem (by omega)))) hrl
    refine ⟨hF, A', c', rfl, ⟨rows, hr, hrl, fun j r a hj ha => (hrs j r a hj ha).imp fun b hb => ⟨hb.1, hb.2.1⟩⟩, fun x hx => ?_⟩
    exact ⟨hnew _ (by rw [hx]; rfl), hown.lt (by rw [hx]; rfl)⟩

theorem copyDs_ok (r : List Value) (d : Ds) (w0 : World) (hd : DsAt w0 r d) (hs : SmCDs d) :
    Ret Tryz.prog 18 [.agg r.toArray] w0 [] fun v w' => ∃ r', v = .agg r'.toArray ∧ DsIn (fun b => w0.heap.size ≤ b ∧ b < w'.heap.size) w' r' d := by
  obtain ⟨At, ct, Aa, ca, rfl, h1, h2, _⟩ := hd
  refine fn_go (cx_ok 12 []) wideOrders Tryz.func18 rfl rfl Tryz.call18 (by simp [cx]) ?_; conv => whnf
  have hF := Fr.refl [] w0
  refine EvNew.blk fun r1 w hr_r1 hz_r1 hFx hB_r1 => ?_; replace hF := (hF).trans hFx; have hlt_r1 := hFx.size; conv => whnf
  refine EvNew.blk fun r2 w hr_r2 hz_r2 hFx hB_r2 => ?_; replace hF := (hF).trans hFx; have hlt_r2 := hFx.size; conv => whnf
  have hlo : w0.heap.size ≤ w.heap.size ∧ r1 < w.heap.size ∧ r2 < w.heap.size := by omega
  refine EvCall.ret0 (copyTexts_ok At _ ct _ w (h1.fr0 hF) (by simp) (by simp [Value.oneCell']) (by have := hs.1; omega)) fun v w4 hFx hq => ?_
  obtain ⟨hq, hob⟩ := hq
  obtain ⟨At', ct', rfl, h1', hQ1⟩ := textsOf (Q := fun b => w0.heap.size ≤ b ∧ b < w4.heap.size ∧ b ∉ [r1, r2]) hq rfl (fun b hb => by have := hob b hb; have := hq.lt hb; simp; omega)
  replace hF := hF.trans hFx
  have hG := Fr.refl [r1, r2] w4
  have hsz := hFx.size
  clear hq hob
  conv => whnf
  intro w hFx hBx; replace hF := (hF).trans' hFx (by simp; omega); conv => whnf
  replace hG := hG.trans (hFx.mono (by simp))
  refine EvCall.ret0 (copyAbs_ok Aa ca d.able w (h2.fr0 hF) hs.2.1 hs.2.2) fun v w6 hFy hq => ?_
  have hsz2 := hG.size
  obtain ⟨Aa', ca', rfl, hq⟩ := hq
  have h3' := hq.imp (Q' := fun b => w0.heap.size ≤ b ∧ b < w6.heap.size ∧ b ∉ [r1, r2]) (fun b hb => by simp; omega)
  replace hF := hF.trans hFy
  replace hG := hG.trans (hFy.mono (by simp))
  have hH := Fr.refl [r1, r2] w6
  clear hq
  conv => whnf
  intro w hFx hBx; replace hF := (hF).trans' hFx (by simp; omega); conv => whnf
  replace hG := hG.trans (hFx.mono (by simp))
  replace hH := hH.trans (hFx.mono (by simp))
  intro w hFx hBx; replace hF := (hF).trans' hFx (by simp; omega); conv => whnf
  replace hG := hG.trans (hFx.mono (by simp))
  replace hH := hH.trans (hFx.mono (by simp))
  exact ⟨hF, _, rfl, At', ct', Aa', ca', rfl, Rows.frQ h1' hQ1 hG fun b hb => hb.2.2, (h3'.fr hH fun b hb => hb.2.2).imp fun b hb => ⟨hb.1, Nat.lt_of_lt_of_le hb.2.1 hH.size⟩, hQ1.imp fun b hb => ⟨hb.1, Nat.lt_of_lt_of_le hb.2.1 hG.size⟩⟩

structure DssInv (w0 : World) (l : List Ds) (i : Nat) (v : Value) (w : World) : Prop where
  le : i ≤ l.length
  fr : Fr [] w0 w
  own : ∃ rows : List (List Value), Own w 33 6 v i rows.flatten ∧ rows.length = i ∧ ∀ (j : Nat) (r : List Value) (a : Ds), rows[j]? = some r → l[j]? = some a → DsIn (Fresh w0 w v) w r a
  new : ∀ b, v.ownBlock = some b → w0.heap.size ≤ b

theorem copyDss_ok (A : Option Addr) (c : Nat) (l : List Ds) (w0 : World) (hl : DssAt w0 A l) (hn : l.length ≤ 1073741824) (hs : ∀ a ∈ l, SmCDs a) :
    Ret Tryz.prog 7 [.slice A l.length c] w0 [] fun v w' => ∃ A' c', v = .slice A' l.length c' ∧ DssIn (fun b => w0.heap.size ≤ b ∧ b < w'.heap.size) w' A' l := by
  refine fn_go (cx_ok 20 []) wideOrders Tryz.func7 rfl rfl Tryz.call7 (by simp [cx]) ?_; conv => whnf
  refine EvLoop.go (Nat × Value) (fun (i, v) => ⟨[(0, .v (.slice A l.length c)), (3, .v v), (4, .v (.int .i64 i))], [], 0⟩) (fun x w => DssInv w0 l x.1 x.2 w) (fun x => l.length - x.1) (0, .slice none 0 0) (by (refine SubS.mk ?_ ?_ <;> (repeat' (first | exact True.intro | refine And.intro ?_ ?_)) <;> (first | rfl | exact svi (by omega) | exact List.mem_cons_self | exact List.mem_cons_of_mem _ List.mem_cons_self | exact List.mem_cons_of_mem _ (List.mem_cons_of_mem _ List.mem_cons_self) | skip)))
    ⟨Nat.zero_le _, Fr.refl [] w0, ⟨[], Own.nil, rfl, by simp⟩, by simp [Value.ownBlock]⟩ ?_
  rintro ⟨i, v⟩ w ⟨hle, hF, ⟨rows, hown, hrl, hrs⟩, hnew⟩
  dsimp only at hle hF hown hrl hrs hnew
  conv => whnf
  refine EvIf.lt (fun hlt => ?_) (fun hge => ?_)
  · conv => whnf
    refine EvIdx.row (hl.fr0 hF).1 (by omega) rfl rfl fun a r ha hlr hr hcells => ?_
    have hi : i < l.length := by omega
    conv => whnf
    refine EvLdN.row hcells hlr ?_
    conv => whnf
    have hm := hs _ (List.getElem_mem hi)
    refine EvCall.ret0 (copyDs_ok _ _ w (hr.imp fun _ _ => trivial) hm) fun u w1 hF1 hq => ?_
    obtain ⟨_, rfl, hq⟩ := hq
    have hq' := hq
    obtain ⟨At', ct', Aa', ca', rfl, _⟩ := hq'
    conv => whnf
    refine EvNew.blk fun g w2 hg hz hF2 hB => ?_
    conv => whnf
    refine EvApp.lit (cx_ok 0 []) rfl (⟨rfl, rfl, rfl, rfl⟩ : El (cx 0 []) 33 6 88 _) (by omega) rfl ((hown.fr0 hF1).fr0 hF2) (m := 1) hB rfl (DsIn.one hq) (by omega) (by simp [maxLen]; omega) (by simp [rsOf]) fun v' w3 hown' hF3 hat => ?_
    conv => whnf
    refine EvAr.i64 (by omega) ?_; conv => whnf
    refine ⟨(i + 1, v'), by (refine SubS.mk ?_ ?_ <;> (repeat' (first | exact True.intro | refine And.intro ?_ ?_)) <;> (first | rfl | exact svi (by omega) | exact List.mem_cons_self | exact List.mem_cons_of_mem _ List.mem_cons_self | exact List.mem_cons_of_mem _ (List.mem_cons_of_mem _ List.mem_cons_self) | skip)), ⟨hi, ?_, ⟨rows ++ [l[i].cells At' ct' Aa' ca'], by rw [List.flatten_append, List.flatten_singleton]; exact hown', by simp [hrl], ?_⟩, ?_⟩, by dsimp only; omega⟩
    · refine ((hF.trans hF1).trans hF2).trans' hF3 fun x hx hlt' => absurd (hnew x (toList_some.1 hx)) (by omega)
    · have hs1 := hF1.size
      have hs3 := hF3.size
      have hs0 := hF.size
      intro j r a hj ha
      rw [List.getElem?_append] at hj
      split at hj
      · exact (((hrs j r a hj ha).fr0 hF1).fr0 hF2 |>.fr hF3 fun b hb hm => hb.2.2 (toList_some.1 hm)).imp fun b hb => ⟨hb.1, by have := hb.2.1; omega, fun hv => by
          rcases hat with e | e
          · exact hb.2.2 (e ▸ hv)
          · rw [e] at hv; injection hv with hv; have := hb.2.1; omega⟩
      · rename_i hjl
        have hj0 : j - rows.length = 0 := by
          have := (List.getElem?_eq_some_iff.1 hj).1
          simp at this; omega
        rw [hj0] at hj
        injection hj with hj
        subst hj
        have hjl : j = i := by omega
        subst hjl
        rw [List.getElem?_eq_getElem hi] at ha
        injection ha with ha
        subst ha
        have hvlt : ∀ b, v.ownBlock = some b → b < w.heap.size := fun b hb => hown.lt hb
        refine ((hq.fr0 hF2).fr hF3 fun b hb hm => ?_).imp fun b hb => ⟨by omega, by omega, fun hv => ?_⟩
        · have := hvlt b (toList_some.1 hm); omega
        · rcases hat with e | e
          · have := hvlt b (e ▸ hv); omega
          · rw [e] at hv; injection hv with hv; omega
    · intro b hb
      rcases hat with e | e
      · exact hnew b (e ▸ hb)
      · rw [e] at hb; injection hb with hb
        have hs1 := hF1.size
        have hs0 := hF.size
        omega
  · conv => whnf
    obtain rfl : i = l.length := by omega
    obtain ⟨A', c', rfl, hr⟩ := Own.rowsR hown (fun r hr => by
      obtain ⟨j, hj, rfl⟩ := List.getElem_of_mem hr
      exact DsIn.len (hrs j _ _ (List.getElem?_eq_getElem hj) (List.getElem?_eq_getElem (by omega)))) hrl
    refine ⟨hF, A', c', rfl, ⟨rows, hr, hrl, fun j r a hj ha => (hrs j r a hj ha).imp fun b hb => ⟨hb.1, hb.2.1⟩⟩, fun x hx => ?_⟩
    exact ⟨hnew _ (by rw [hx]; rfl), hown.lt (by rw [hx]; rfl)⟩
end Go.Proofs.Tab
