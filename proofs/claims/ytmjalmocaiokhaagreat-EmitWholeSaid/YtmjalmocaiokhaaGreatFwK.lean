/- The walking layer, part K: blocks, slices of the call's own, append, make. No condition. -/
import Derived.Test.YtmjalmocaiokhaaGreatDat
import Derived.Maps.AppendAt
set_option linter.unusedVariables false
set_option linter.unusedSimpArgs false
namespace Go.Fw
open Go

theorem EvIdx.one {g n sz : Nat} {i : Int} {K : Addr → Prop} (h0 : 0 ≤ i) (h1 : i < n) (hsz : sz = 1) (k : K ((⟨g, 0, none⟩ : Addr).add i.toNat)) : EvIdx (some ⟨g, 0, none⟩) n i sz K :=
  ⟨_, rfl, h0, h1, by rw [hsz, Nat.mul_one]; exact k⟩

/-! ### A block that is known whole -/
def HB (w : World) (r T : Nat) (cs : List Value) : Prop := w.heap[r]? = some (.cells cs.toArray T (0, 0))

section
variable {w w' : World} {r T : Nat} {cs : List Value} {S : List Nat}
theorem HB.lt (h : HB w r T cs) : r < w.heap.size := by
  unfold HB at h
  rcases Nat.lt_or_ge r w.heap.size with h2 | h2
  · exact h2
  · rw [Array.getElem?_eq_none h2] at h; cases h
theorem HB.fr (h : HB w r T cs) (hf : Fr S w w') (hs : r ∉ S) : HB w' r T cs := (hf.block r h.lt hs).trans h
theorem HB.fr0 (h : HB w r T cs) (hf : Fr [] w w') : HB w' r T cs := h.fr hf (by simp)
theorem HB.cell (h : HB w r T cs) {o : Nat} {v : Value} (hv : cs[o]? = some v) : w.cell? ⟨r, o, none⟩ = some v := by
  unfold HB at h; simp [World.cell?, h, hv]
theorem HB.add (h : HB w r T cs) {o : Nat} {v : Value} (hv : cs[o]? = some v) : w.cell? ((⟨r, 0, none⟩ : Addr).add o) = some v := by
  rw [Addr.add_lit, Nat.zero_add]; exact h.cell hv
theorem HB.add0 (h : HB w r T cs) {o : Nat} {v : Value} (hv : cs[o]? = some v) : w.cell? (Addr.add ⟨r, 0, none⟩ o) = some v := h.add hv
theorem HB.frozen (h : HB w r T cs) (a : Addr) (ha : a.block = r) : w.frozen? a = false := by
  unfold HB at h; subst ha; simp [World.frozen?, h]
theorem HB.set_ (h : HB w r T cs) (o : Nat) (v : Value) : HB (w.setCell ⟨r, o, none⟩ v) r T (cs.set o v) := by
  unfold HB at h ⊢
  simp [World.setCell, Array.getElem?_modify, h]
theorem HB.uniq {T' : Nat} {cs' : List Value} (h : HB w r T cs) (h' : HB w r T' cs') : T = T' ∧ cs = cs' := by
  unfold HB at h h'; rw [h] at h'; simp at h'; exact ⟨h'.2, h'.1⟩
theorem HB.ne_ty {r' T' : Nat} {cs' : List Value} (h : HB w r T cs) (h' : HB w r' T' cs') (hne : T ≠ T') : r ≠ r' := by
  rintro rfl; exact hne (h.uniq h').1
theorem HB.new {o : Obj} (h : w.heap[r]? = some (.cells cs.toArray T)) : HB w r T cs := h
theorem EvLd.blk {K : Value → Prop} {o : Nat} {v : Value} (h : HB w r T cs) (hv : cs[o]? = some v) (k : K v) : EvLd w ((⟨r, 0, none⟩ : Addr).add o) K := ⟨v, h.add hv, k⟩
theorem EvLd.blk0 {K : Value → Prop} {o : Nat} {v : Value} (h : HB w r T cs) (hv : cs[o]? = some v) (k : K v) : EvLd w (⟨r, o, none⟩ : Addr) K := ⟨v, h.cell hv, k⟩
theorem EvSt.blk {L : List Nat} {K : World → Prop} {o : Nat} {u v : Value} (h : HB w r T cs) (ho : cs[o]? = some u) (h1 : v.oneCell' = true) (hL : ∀ x ∈ L, x ≠ r)
    (k : ∀ w', Fr [r] w w' → HB w' r T (cs.set o v) → K w') : EvSt w ((⟨r, 0, none⟩ : Addr).add o) v L K := by
  have e : (⟨r, 0, none⟩ : Addr).add o = ⟨r, o, none⟩ := by rw [Addr.add_lit, Nat.zero_add]
  rw [e]
  exact ⟨h1, ⟨u, h.cell ho⟩, h.frozen _ rfl, hL, k _ (Fr.setCell w ⟨r, o, none⟩ v) (h.set_ o v)⟩
theorem EvSt.blk0 {L : List Nat} {K : World → Prop} {o : Nat} {u v : Value} (h : HB w r T cs) (ho : cs[o]? = some u) (h1 : v.oneCell' = true) (hL : ∀ x ∈ L, x ≠ r)
    (k : ∀ w', Fr [r] w w' → HB w' r T (cs.set o v) → K w') : EvSt w (⟨r, o, none⟩ : Addr) v L K :=
  ⟨h1, ⟨u, h.cell ho⟩, h.frozen _ rfl, hL, k _ (Fr.setCell w ⟨r, o, none⟩ v) (h.set_ o v)⟩
theorem EvNew.blk {T : Nat} {cs : List Value} {K : Nat → World → Prop} (k : ∀ r w', r = w.heap.size → w'.heap.size = r + 1 → Fr [] w w' → HB w' r T cs → K r w') : EvNew w (.cells cs.toArray T) K :=
  EvNew.go fun r w' h1 h2 h3 h4 => k r w' h1 h2 h3 h4
end

def knownB : Cls → Bool
  | .no => false
  | _ => true
theorem knownB_ok {c : Cls} (h : knownB c = true) : c ≠ .no := by rintro rfl; cases h
/-- What the table says of an element's type. -/
structure El (C : Ctx) (e sz by_ : Nat) (zero : List Value) : Prop where
  kn : knownB (C.ty e).cls = true
  sz : (C.ty e).size = sz
  by_ : (C.ty e).bytes = by_
  zero : (C.ty e).zero = zero

/-! ### Slices of the call's own -/
def Own (w : World) (T sz : Nat) (v : Value) (n : Nat) (xs : List Value) : Prop := w.ownsRow 0 T sz v n xs

theorem toList_some {x : Option Nat} {k : Nat} : k ∈ x.toList ↔ x = some k := by cases x <;> simp [eq_comm]

section
variable {w w' : World} {T sz n : Nat} {v : Value} {xs : List Value} {S : List Nat}
theorem Own.nil : Own w T sz (.slice none 0 0) 0 [] := World.ownsRow_nil w 0 T sz
theorem Own.len (h : Own w T sz v n xs) : xs.length = n * sz := h.1
theorem Own.lt (h : Own w T sz v n xs) {k : Nat} (hk : v.ownBlock = some k) : k < w.heap.size := (World.ownsRow.lt h k hk).2
theorem Own.fr (h : Own w T sz v n xs) (hf : Fr S w w') (hs : ∀ k, v.ownBlock = some k → k ∉ S) : Own w' T sz v n xs := by
  obtain ⟨h1, h2⟩ := h
  refine ⟨h1, ?_⟩
  rcases h2 with h2 | ⟨g, cap, cur, rfl, h3, h4, h5⟩
  · exact .inl h2
  · refine .inr ⟨g, cap, cur, rfl, h3, ?_, h5⟩
    have hlt : g < w.heap.size := by
      rcases Nat.lt_or_ge g w.heap.size with h6 | h6
      · exact h6
      · rw [Array.getElem?_eq_none h6] at h4; cases h4
    rw [hf.block g hlt (hs g rfl)]
    exact h4
theorem Own.fr0 (h : Own w T sz v n xs) (hf : Fr [] w w') : Own w' T sz v n xs := h.fr hf (by simp)
/-- The value is a slice. -/
theorem Own.form (h : Own w T sz v n xs) : ∃ A c, v = .slice A n c ∧ n ≤ c ∧ (0 < n → ∃ g, A = some ⟨g, 0, none⟩) ∧ (A = none → n = 0 ∧ c = 0) := by
  rcases h.2 with ⟨rfl, rfl⟩ | ⟨g, cap, cur, rfl, h3, h4, h5, _⟩
  · exact ⟨none, 0, rfl, Nat.le_refl _, (fun h => absurd h (by omega)), fun _ => ⟨rfl, rfl⟩⟩
  · exact ⟨_, cap, rfl, h5, fun _ => ⟨g, rfl⟩, by simp⟩
theorem Own.cell {g cap : Nat} (h : Own w T sz (.slice (some ⟨g, 0, none⟩) n cap) n xs) {j : Nat} {u : Value} (hj : xs[j]? = some u) : w.cell? ((⟨g, 0, none⟩ : Addr).add j) = some u :=
  World.ownsRow.cells h (g := g) rfl j u hj
/-- Read as rows. -/
theorem Own.rows {A : Option Addr} {c : Nat} (h : Own w T sz (.slice A n c) n xs) {rows : List (List Value)} (hx : xs = rows.flatten) (hs : ∀ r ∈ rows, r.length = sz) (hn : rows.length = n) : Rows w A sz rows := by
  refine ⟨hs, fun hne => ?_⟩
  have hpos : 0 < n := by
    rcases Nat.eq_zero_or_pos n with h0 | h0
    · exact absurd (List.eq_nil_of_length_eq_zero (hn.trans h0)) hne
    · exact h0
  obtain ⟨A', c', e1, _, h2, _⟩ := h.form
  injection e1 with e1 e2 e3
  subst e1
  obtain ⟨g, rfl⟩ := h2 hpos
  refine ⟨_, rfl, h.lt rfl, fun i r hi j u hj => h.cell ?_⟩
  subst hx
  have hjs : j < sz := by
    have := hs r (List.mem_of_getElem? hi)
    have := (List.getElem?_eq_some_iff.1 hj).1
    omega
  clear hn h hpos hne h2
  induction rows generalizing i with
  | nil => simp at hi
  | cons x rows ih =>
    have hx := hs x List.mem_cons_self
    rw [List.flatten_cons]
    cases i with
    | zero =>
      simp at hi; subst hi
      rw [Nat.zero_mul, Nat.zero_add, List.getElem?_append_left (by omega)]
      exact hj
    | succ i =>
      rw [List.getElem?_append_right (by rw [hx, Nat.succ_mul]; omega), hx]
      have := ih (fun r hr => hs r (List.mem_cons_of_mem _ hr)) i (by simpa using hi)
      rw [← this]
      congr 1
      rw [Nat.succ_mul]; omega
end

theorem flat_one {α β : Type} (f : α → β) (l : List α) : (l.map fun x => [f x]).flatten = l.map f := by
  induction l with
  | nil => rfl
  | cons x l ih => simp [ih]

theorem Own.ints {w : World} {T n : Nat} {v : Value} {xs : List Int} (h : Own w T 1 v n (xs.map fun x => Value.int .i64 x)) : ∃ A c, v = .slice A xs.length c ∧ IntsAt w A xs := by
  have hl : xs.length = n := by have := h.len; simpa using this
  obtain ⟨A, c, rfl, _⟩ := h.form
  refine ⟨A, c, by rw [hl], Own.rows h (rows := xs.map fun x => [Value.int .i64 x]) (flat_one _ _).symm (by simp) (by simpa using hl)⟩

section
variable {C : Ctx} {P : Program} {w : World} {L : List Nat}

/-- append of cells that lie in memory onto a slice of the call's own. -/
theorem EvApp.own (hC : COk C P) {t e ty sz bt : Nat} {zero : List Value} (ht : (C.ty t).cls = .slice e) (el : El C e sz bt zero) (hpos : 0 < sz) (hz : zero.length = sz)
    {v : Value} {n : Nat} {xs : List Value} (hown : Own w e sz v n xs) {A : Option Addr} {m c : Nat} {news : List Value} (hl : news.length = m * sz)
    (hA : 0 < m → ∃ a, A = some a ∧ ∀ j u, news[j]? = some u → w.cell? (a.add j) = some u) (h1 : ∀ u ∈ news, u.oneCell' = true)
    (hb : (n + m) * bt ≤ 140737488355328) (h63 : n + m ≤ maxLen) (hL : ∀ r ∈ L, v.ownBlock ≠ some r) {K : Value → World → Prop}
    (k : ∀ v' w', Own w' e sz v' (n + m) (xs ++ news) → Fr v.ownBlock.toList w w' → (v'.ownBlock = v.ownBlock ∨ v'.ownBlock = some w.heap.size) → K v' w') :
    EvPrim P w (Builtin.append_ #[t, t] ty #[v, .slice A m c]) L K := by
  obtain ⟨i, hi, g1, g2, z, g3, g4⟩ := hC.info (knownB_ok el.kn)
  have hsz := el.sz
  have hzs : z.cells.size = sz := by rw [← hz, ← el.zero, ← g4]; simp
  have fin : ∀ v' w', (Builtin.append_ #[t, t] ty #[v, .slice A m c]).run P w = .ok v' w' → w'.ownsRow 0 e sz v' (n + m) (xs ++ news) → w.grownBy w' v.ownBlock → (v'.ownBlock = v.ownBlock ∨ v'.ownBlock = some w.heap.size) →
      EvPrim P w (Builtin.append_ #[t, t] ty #[v, .slice A m c]) L K := fun v' w' hrun h2 h3 h4 =>
    ⟨v', w', hrun, Keep.of_fr (Fr.of_grown h3) (fun r hr hm => hL r hr (toList_some.1 hm)), k v' w' h2 (Fr.of_grown h3) h4⟩
  cases A with
  | some a =>
    have hnews : ∀ j u, news[j]? = some u → w.cell? (a.add j) = some u := by
      rcases Nat.eq_zero_or_pos m with h0 | h0
      · intro j u hj
        have : news = [] := List.eq_nil_of_length_eq_zero (by rw [hl, h0]; simp)
        rw [this] at hj; simp at hj
      · obtain ⟨a', e', h'⟩ := hA h0
        injection e' with e'; subst e'
        exact h'
    obtain ⟨v', w', hrun, h2, h3, _, h5⟩ := run_append_own_at (P := P) w 0 t ty e i z sz bt (hC.slice ht) hi g3 (g1.trans hsz) (g2.trans el.by_) hzs hpos v n xs hown a m c news hl hnews h1 h63 hb (Nat.zero_le _)
    exact fin v' w' hrun h2 h3 h5
  | none =>
    have hm : m = 0 := by
      rcases Nat.eq_zero_or_pos m with h0 | h0
      · exact h0
      · obtain ⟨_, e', _⟩ := hA h0; cases e'
    subst hm
    have hn : news = [] := List.eq_nil_of_length_eq_zero (by simpa using hl)
    subst hn
    refine fin v w ?_ (by simpa using (show w.ownsRow 0 e sz v n xs from hown)) ⟨rfl, rfl, rfl, Nat.le_refl _, fun _ _ _ => rfl⟩ (.inl rfl)
    rcases hown.2 with ⟨rfl, rfl⟩ | ⟨g, cap, cur, rfl, _, _, hnc, _⟩
    · simp [Builtin.append_, run_underlying (hC.slice ht), sizeOf, typeInfo, hi, Builtin.lenOf, Builtin.firstCells]
    · simp [Builtin.append_, run_underlying (hC.slice ht), sizeOf, typeInfo, hi, Builtin.lenOf, Builtin.firstCells, hnc, storeCells]

/-- append of what a literal has just laid. -/
theorem EvApp.lit (hC : COk C P) {t e ty sz bt : Nat} {zero : List Value} (ht : (C.ty t).cls = .slice e) (el : El C e sz bt zero) (hpos : 0 < sz) (hz : zero.length = sz)
    {v : Value} {n : Nat} {xs : List Value} (hown : Own w e sz v n xs) {r m c : Nat} {news : List Value} (hnew : HB w r e news) (hl : news.length = m * sz) (h1 : ∀ u ∈ news, u.oneCell' = true)
    (hb : (n + m) * bt ≤ 140737488355328) (h63 : n + m ≤ maxLen) (hL : ∀ x ∈ L, v.ownBlock ≠ some x) {K : Value → World → Prop}
    (k : ∀ v' w', Own w' e sz v' (n + m) (xs ++ news) → Fr v.ownBlock.toList w w' → (v'.ownBlock = v.ownBlock ∨ v'.ownBlock = some w.heap.size) → K v' w') :
    EvPrim P w (Builtin.append_ #[t, t] ty #[v, .slice (some ⟨r, 0, none⟩) m c]) L K :=
  EvApp.own hC ht el hpos hz hown hl (fun _ => ⟨_, rfl, fun j u hj => hnew.add hj⟩) h1 hb h63 hL k

theorem madeCells_toList (z : Value) (n : Nat) (x : Value) (hz : z.cells.toList = [x]) : (madeCells z.cells (n * 1)).toList = List.replicate n x := by
  have hc : z.cells = #[x] := by apply Array.ext'; simpa using hz
  rw [hc, Nat.mul_one]
  apply List.ext_getElem?
  intro i
  by_cases hi : i < n
  · simp [madeCells, hi, Nat.mod_one]
  · simp [madeCells, hi]

/-- make([]T, n), T of one cell: a block known whole. -/
theorem EvMake.one (hC : COk C P) {t e n bt : Nat} {x : Value} (ht : (C.ty t).cls = .slice e) (el : El C e 1 bt [x]) {kl kc : IntKind}
    (hb : bt * n ≤ 281474976710656) (h63 : n ≤ maxLen) {K : Value → World → Prop}
    (k : ∀ r w', r = w.heap.size → w'.heap.size = r + 1 → Fr [] w w' → HB w' r e (List.replicate n x) → K (.slice (some ⟨r, 0, none⟩) n n) w') : EvPrim P w (Instr.makeSlice t (.int kl (n : Int)) (.int kc (n : Int))) L K := by
  obtain ⟨i, hi, g1, g2, z, g3, g4⟩ := hC.info (knownB_ok el.kn)
  have h63' : (n : Int) ≤ 9223372036854775807 := by simp [maxLen] at h63; omega
  have hb' : (i.bytes : Int) * (n : Int) ≤ 281474976710656 := by
    rw [g2, el.by_]
    have h : ((bt * n : Nat) : Int) ≤ 281474976710656 := by omega
    rwa [Int.natCast_mul] at h
  have hr := run_make (P := P) w t e i z (hC.slice ht) hi g3 kl kc n n (by omega) (Int.le_refl _) hb' h63'
  simp only [Int.toNat_natCast] at hr
  refine ⟨_, _, hr, keep_alloc w _, k _ _ rfl (by show (w.heap.push _).size = _; simp) (Fr.alloc w _) ?_⟩
  have hm := madeCells_toList z n x (g4.trans el.zero)
  show _ = some (Obj.cells (List.replicate n x).toArray e (0, 0))
  rw [heap_alloc_same, ← hm, g1, el.sz]
end
end Go.Fw
