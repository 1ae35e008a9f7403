/- Package emit: rising, by the library's sort. No condition. -/
import Derived.Test.YtmjalmocaiokhaaGreatPools
import Derived.Test.YtmjalmocaiokhaaGreatLay
import Derived.Sort.OwnSorted
import Derived.Sort.OwnSortedInts
set_option linter.unusedVariables false
set_option linter.unusedSimpArgs false
set_option maxRecDepth 100000
namespace Go.Proofs.Tab
open Go Go.Fw

theorem sortI_ok {w : World} {A : Option Addr} {c : Nat} {L : List Int} (h : Own w 2 1 (.slice A L.length c) L.length (L.map fun n => .int .i64 n)) (hl : L.length < 4611686018427387904) :
    Ret Tryz.prog 31 [.slice A L.length c] w (Value.slice A L.length c).ownBlock.toList fun v w' => v = .tuple #[] ∧ Own w' 2 1 (.slice A L.length c) L.length ((L.mergeSort fun x y => decide (x ≤ y)).map fun n => .int .i64 n) := by
  refine ⟨Tryz.call31, ?_⟩
  rcases h.2 with ⟨e, h0⟩ | ⟨g, cap, cur, e, _, h4, h5, h6, h7, h8⟩
  · injection e with e1 e2 e3
    have hL : L = [] := List.eq_nil_of_length_eq_zero h0
    subst hL e1 e3
    refine (AnyM.slices_Sort_int_none layI none 0 w).mono ?_
    rintro e w' ⟨rfl, rfl⟩
    exact ⟨_, rfl, Fr.refl _ _, rfl, by simpa using h⟩
  · injection e with e1 e2 e3
    subst e1 e3
    have hb : w.heap[g]? = some (.cells cur 2 (0, 0)) := h4
    have hg : g < w.heap.size := (Array.getElem?_eq_some_iff.1 hb).1
    refine (AnyM.slices_Sort_int layI g 0 c L w (Go.holds_of_blockI hb (by rw [Nat.mul_one] at h8; exact h8)) hg hl).mono ?_
    rintro e w' ⟨rfl, n, os, rfl⟩
    exact ⟨_, rfl, (Fr.of_grown (Go.grownBy_sortedI (g := g) _)), rfl, Go.ownsRow_sortedI (by simp) (Nat.zero_le _) hb h5 h6 h7⟩

def bl (s : ByteArray) : List UInt8 := s.data.toList
def lb (l : List UInt8) : ByteArray := ⟨l.toArray⟩
theorem lb_bl (s : ByteArray) : lb (bl s) = s := by cases s; simp [lb, bl]
theorem bl_lb (l : List UInt8) : bl (lb l) = l := by simp [lb, bl]
theorem sortT_ok {w : World} {A : Option Addr} {c : Nat} {L : List ByteArray} (h : Own w 9 1 (.slice A L.length c) L.length (L.map fun n => .string n)) (hl : L.length < 4611686018427387904) :
    Ret Tryz.prog 32 [.slice A L.length c] w (Value.slice A L.length c).ownBlock.toList fun v w' => v = .tuple #[] ∧ Own w' 9 1 (.slice A L.length c) L.length ((((L.map bl).mergeSort fun x y => decide (x ≤ y)).map lb).map fun n => .string n) := by
  refine ⟨Tryz.call32, ?_⟩
  have he : ∀ l : List (List UInt8), (l.map lb).map (fun n => Value.string n) = l.map Go.Proofs.encStr := fun l => by rw [List.map_map]; rfl
  have hL : (L.map fun n => Value.string n) = (L.map bl).map Go.Proofs.encStr := by
    rw [← he, List.map_map, List.map_map]
    exact List.map_congr_left fun s _ => by simp [lb_bl]
  rcases h.2 with ⟨e, h0⟩ | ⟨g, cap, cur, e, _, h4, h5, h6, h7, h8⟩
  · injection e with e1 e2 e3
    have hL : L = [] := List.eq_nil_of_length_eq_zero h0
    subst hL e1 e3
    refine (AnyM.slices_Sort_string_none layT none 0 w).mono ?_
    rintro e w' ⟨rfl, rfl⟩
    exact ⟨_, rfl, Fr.refl _ _, rfl, by simpa using h⟩
  · injection e with e1 e2 e3
    subst e1 e3
    have hb : w.heap[g]? = some (.cells cur 9 (0, 0)) := h4
    have hg : g < w.heap.size := (Array.getElem?_eq_some_iff.1 hb).1
    have hc := AnyM.slices_Sort_string layT g 0 c (L.map bl) w (Go.holds_of_block hb (by rw [Nat.mul_one, hL] at h8; simpa using h8)) hg (by simpa using hl)
    rw [List.length_map] at hc
    refine hc.mono ?_
    rintro e w' ⟨rfl, n, os, rfl⟩
    refine ⟨_, rfl, (Fr.of_grown (Go.grownBy_sorted (g := g) _)), rfl, ?_⟩
    rw [he]
    have := Go.ownsRow_sorted (n := n) (os := os) (ss := L.map bl) (ts := (L.map bl).mergeSort fun x y => decide (x ≤ y)) (by simp) (Nat.zero_le _) hb (by simpa using h5) h6 h7
    rw [List.length_map] at this
    exact this

theorem nodup_sub_len {α : Type} [DecidableEq α] : ∀ {l m : List α}, l.Nodup → (∀ x ∈ l, x ∈ m) → l.length ≤ m.length
  | [], _, _, _ => by simp
  | x :: l, m, hn, hs => by
    have hx := hs x List.mem_cons_self
    have h1 := List.nodup_cons.1 hn
    have ih := nodup_sub_len (l := l) (m := m.erase x) h1.2 fun y hy => (List.mem_erase_of_ne (by rintro rfl; exact h1.1 hy)).2 (hs y (List.mem_cons_of_mem _ hy))
    rw [List.length_erase_of_mem hx] at ih
    have := List.length_pos_of_mem hx
    simp only [List.length_cons]
    omega

theorem fin_I {w : World} {lo : Nat} {A : Option Addr} {c : Nat} {L li : List Int} (hO : Own w 2 1 (.slice A L.length c) L.length ((L.mergeSort fun x y => decide (x ≤ y)).map fun n => .int .i64 n)) (hB : ∀ b, (Value.slice A L.length c).ownBlock = some b → lo ≤ b) (hnd : L.Nodup) (hmem : ∀ k, k ∈ L ↔ k ∈ li) : RisI lo li (.slice A L.length c) w := by
  have hlen : (L.mergeSort fun x y => decide (x ≤ y)).length = L.length := by simp
  refine ⟨L.mergeSort fun x y => decide (x ≤ y), by rw [hlen]; exact hO, hB, ?_, fun k => by rw [← hmem]; simp⟩
  have h1 : (L.mergeSort fun x y => decide (x ≤ y)).Pairwise fun a b => decide (a ≤ b) = true := List.pairwise_mergeSort (fun a b c h1 h2 => by simp at *; omega) (fun a b => by simp; omega) L
  have h2 : (L.mergeSort fun x y => decide (x ≤ y)).Nodup := (List.mergeSort_perm L _).nodup_iff.2 hnd
  exact (h1.and h2).imp fun h => by have h1 := h.1; have h2 := h.2; simp at h1; omega
theorem fin_T {w : World} {lo : Nat} {A : Option Addr} {c : Nat} {L li : List ByteArray} (hO : Own w 9 1 (.slice A L.length c) L.length ((((L.map bl).mergeSort fun x y => decide (x ≤ y)).map lb).map fun n => .string n)) (hB : ∀ b, (Value.slice A L.length c).ownBlock = some b → lo ≤ b) (hnd : L.Nodup) (hmem : ∀ k, k ∈ L ↔ k ∈ li) : RisT lo li (.slice A L.length c) w := by
  have hlen : (((L.map bl).mergeSort fun x y => decide (x ≤ y)).map lb).length = L.length := by simp
  refine ⟨((L.map bl).mergeSort fun x y => decide (x ≤ y)).map lb, by rw [hlen]; exact hO, hB, ?_, fun k => ?_⟩
  · have h1 : ((L.map bl).mergeSort fun x y => decide (x ≤ y)).Pairwise fun a b => decide (a ≤ b) = true := List.pairwise_mergeSort (fun a b c h1 h2 => by simp at *; exact List.le_trans h1 h2) (fun a b => by simp; exact List.le_total a b) _
    have hinj : ∀ a b : ByteArray, bl a = bl b → a = b := fun a b h => by rw [← lb_bl a, ← lb_bl b, h]
    have h3 : (L.map bl).Nodup := List.pairwise_map.2 (hnd.imp fun h e => h (hinj _ _ e))
    have h2 : ((L.map bl).mergeSort fun x y => decide (x ≤ y)).Nodup := (List.mergeSort_perm (L.map bl) _).nodup_iff.2 h3
    refine List.pairwise_map.2 ((h1.and h2).imp fun {a b} h => ?_)
    show bl (lb a) < bl (lb b)
    rw [bl_lb, bl_lb]
    have h1 := h.1
    simp at h1
    rcases List.le_iff_lt_or_eq.1 h1 with h | h'
    · exact h
    · exact absurd h' h.2
  · rw [← hmem]
    simp only [List.mem_map, List.mem_mergeSort]
    constructor
    · rintro ⟨x, ⟨y, hy, rfl⟩, rfl⟩; rw [lb_bl]; exact hy
    · intro hk; exact ⟨_, ⟨k, hk, rfl⟩, lb_bl k⟩
theorem rising_I : RisingI := by
  intro w r li hM hlen
  have hinj : ∀ a b, (fun n : Int => Value.int .i64 n) a = (fun n : Int => Value.int .i64 n) b → a = b := fun a b h => by injection h
  refine fn_go (cx_ok 18 []) wideOrders Tryz.func16 rfl rfl Tryz.call16 (by simp [cx]) ?_; conv => whnf
  refine EvPrim.rangeMap (cx_ok 0 []) rfl hM fun it w1 n hit hz1 hF1 hR => ?_
  conv => whnf
  refine EvLoop.meetG (List Int × Value × Nat × Option Int) (fun x => ⟨[(3, .v x.2.1), (6, .v (.pointer (some ⟨it, 0, none⟩)))], [], 0⟩)
    (fun x w' => Fr [] w w' ∧ Rng w' r it (fun n : Int => Value.int .i64 n) cntR (keysF li) x.1 x.2.2.1 x.2.2.2 ∧ Own w' 2 1 x.2.1 x.1.length (x.1.map (fun n : Int => Value.int .i64 n)) ∧ ∀ b, x.2.1.ownBlock = some b → w.heap.size ≤ b) (fun x => x.2.2.1) ([], .slice none 0 0, n, none)
    (List Int × Value) (.exit 0) (fun x => ⟨[(3, .v x.2)], [], 0⟩) (fun x w' => Fr [] w w' ∧ Own w' 2 1 x.2 x.1.length (x.1.map (fun n : Int => Value.int .i64 n)) ∧ (∀ b, x.2.ownBlock = some b → w.heap.size ≤ b) ∧ x.1.Nodup ∧ x.1.length ≤ li.length ∧ ∀ k, k ∈ x.1 ↔ k ∈ li)
    (by (refine SubS.mk ?_ ?_ <;> (repeat' (first | exact True.intro | refine And.intro ?_ ?_)) <;> (first | rfl | exact svi (by omega) | exact List.mem_cons_self | exact List.mem_cons_of_mem _ List.mem_cons_self | exact List.mem_cons_of_mem _ (List.mem_cons_of_mem _ List.mem_cons_self) | skip))) ⟨hF1, hR, Own.nil, by simp [Value.ownBlock]⟩ ?_ ?_
  · intro K0 hK0
    rintro ⟨done, vl, n, last⟩ w2 ⟨hF, hR, hO, hB⟩
    dsimp only at hR hO hB
    have hnd : done.Nodup := by obtain ⟨_, _, _, _, _, _, _, _, q, _⟩ := hR; exact q
    have hsub : ∀ k ∈ done, k ∈ li := fun k hk => by
      obtain ⟨_, _, _, _, _, _, _, _, _, q, _⟩ := hR
      have := q k hk
      unfold keysF at this
      by_cases h : k ∈ li
      · exact h
      · rw [if_neg h] at this; exact absurd rfl this
    have hdl := nodup_sub_len hnd hsub
    have hits : w.heap.size ≤ it := by omega
    conv => whnf
    refine EvPrim.nextMap hinj hR (by simp [rsOf]) (fun hall => ?_) fun k b v w3 n' hn' hkd hk hv hF3 hR3 => ?_
    · conv => whnf
      refine EvIf.ff ?_
      conv => whnf
      exact hK0 (done, vl) _ _ (by (refine SubS.mk ?_ ?_ <;> (repeat' (first | exact True.intro | refine And.intro ?_ ?_)) <;> (first | rfl | exact svi (by omega) | exact List.mem_cons_self | exact List.mem_cons_of_mem _ List.mem_cons_self | exact List.mem_cons_of_mem _ (List.mem_cons_of_mem _ List.mem_cons_self) | skip))) ⟨hF, hO, hB, hnd, hdl, fun k => ⟨hsub k, fun hk => hall k (by unfold keysF; rw [if_pos hk]; simp)⟩⟩
    · conv => whnf
      refine EvIf.tt ?_
      conv => whnf
      refine EvRd.entryMap hR3 fun v' => ?_
      have hOn : ∀ b, vl.ownBlock = some b → b ∉ [it] := fun b hb => by
        have h1 := hO.ty hb
        obtain ⟨_, _, _, _, _, _, _, q, _⟩ := hR
        simp; rintro rfl
        unfold tyOf at h1
        rw [q] at h1; cases h1
      have hO3 := hO.fr hF3 hOn
      have hF03 : Fr [] w w3 := hF.trans' hF3 (by simp; omega)
      have hnd3 : (done ++ [k]).length ≤ li.length := nodup_sub_len (by obtain ⟨_, _, _, _, _, _, _, _, q, _⟩ := hR3; exact q) (fun j hj => by
        rcases List.mem_append.1 hj with hj | hj
        · exact hsub j hj
        · simp at hj; subst hj
          unfold keysF at hk
          by_cases h : j ∈ li
          · exact h
          · rw [if_neg h] at hk; cases hk)
      rw [List.length_append, List.length_singleton] at hnd3
      conv => whnf
      refine EvNew.blk fun g w4 hg hz4 hF4 hB4 => ?_
      conv => whnf
      refine EvApp.lit (cx_ok 0 []) rfl (⟨rfl, rfl, rfl, rfl⟩ : El (cx 0 []) 2 1 8 [.int .i64 0]) (by omega) rfl (hO3.fr0 hF4) hB4 rfl (by simp [Value.oneCell']) (by omega) (by simp [maxLen]; omega) (by simp [rsOf]) fun v5 w5 hO5 hF5 hat => ?_
      conv => whnf
      have hs03 := hF03.size
      have hs4 := hF4.size
      have hR4 := hR3.fr hF4 (by simp) (by simp)
      have hlr := hM.lt
      have hitO : it ∉ vl.ownBlock.toList := fun hm => (by have := hOn it (toList_some.1 hm); simp at this)
      have hrO : r ∉ vl.ownBlock.toList := fun hm => by have := hB r (toList_some.1 hm); omega
      refine ⟨(done ++ [k], v5, n', some k), by (refine SubS.mk ?_ ?_ <;> (repeat' (first | exact True.intro | refine And.intro ?_ ?_)) <;> (first | rfl | exact svi (by omega) | exact List.mem_cons_self | exact List.mem_cons_of_mem _ List.mem_cons_self | exact List.mem_cons_of_mem _ (List.mem_cons_of_mem _ List.mem_cons_self) | skip)), ⟨(hF03.trans hF4).trans' hF5 (fun y hy hl => by have := hB y (toList_some.1 hy); omega), hR4.fr hF5 hrO hitO, ?_, fun b hb => ?_⟩, hn'⟩
      · rw [List.length_append, List.map_append]
        exact hO5
      · rcases hat with e | e
        · exact hB b (e ▸ hb)
        · rw [e] at hb; injection hb with hb; omega
  · rintro ⟨L, vl⟩ w2 ⟨hF, hO, hB, hnd, hdl, hmem⟩
    dsimp only at hO hB hnd hdl hmem
    obtain ⟨A, c, rfl, _⟩ := hO.form
    conv => whnf
    refine EvCall.ret (sortI_ok hO (by omega)) (by simp [rsOf]) fun v w3 hF3 hq => ?_
    obtain ⟨rfl, hO3⟩ := hq
    conv => whnf
    refine ⟨hF.trans' hF3 (fun y hy hl => by have := hB y (toList_some.1 hy); omega), ?_⟩
    exact fin_I hO3 hB hnd hmem
theorem rising_T : RisingT := by
  intro w r li hM hlen
  have hinj : ∀ a b, (fun n : ByteArray => Value.string n) a = (fun n : ByteArray => Value.string n) b → a = b := fun a b h => by injection h
  refine fn_go (cx_ok 18 []) wideOrders Tryz.func17 rfl rfl Tryz.call17 (by simp [cx]) ?_; conv => whnf
  refine EvPrim.rangeMap (cx_ok 0 []) rfl hM fun it w1 n hit hz1 hF1 hR => ?_
  conv => whnf
  refine EvLoop.meetG (List ByteArray × Value × Nat × Option ByteArray) (fun x => ⟨[(3, .v x.2.1), (6, .v (.pointer (some ⟨it, 0, none⟩)))], [], 0⟩)
    (fun x w' => Fr [] w w' ∧ Rng w' r it (fun n : ByteArray => Value.string n) cntR (keysF li) x.1 x.2.2.1 x.2.2.2 ∧ Own w' 9 1 x.2.1 x.1.length (x.1.map (fun n : ByteArray => Value.string n)) ∧ ∀ b, x.2.1.ownBlock = some b → w.heap.size ≤ b) (fun x => x.2.2.1) ([], .slice none 0 0, n, none)
    (List ByteArray × Value) (.exit 0) (fun x => ⟨[(3, .v x.2)], [], 0⟩) (fun x w' => Fr [] w w' ∧ Own w' 9 1 x.2 x.1.length (x.1.map (fun n : ByteArray => Value.string n)) ∧ (∀ b, x.2.ownBlock = some b → w.heap.size ≤ b) ∧ x.1.Nodup ∧ x.1.length ≤ li.length ∧ ∀ k, k ∈ x.1 ↔ k ∈ li)
    (by (refine SubS.mk ?_ ?_ <;> (repeat' (first | exact True.intro | refine And.intro ?_ ?_)) <;> (first | rfl | exact svi (by omega) | exact List.mem_cons_self | exact List.mem_cons_of_mem _ List.mem_cons_self | exact List.mem_cons_of_mem _ (List.mem_cons_of_mem _ List.mem_cons_self) | skip))) ⟨hF1, hR, Own.nil, by simp [Value.ownBlock]⟩ ?_ ?_
  · intro K0 hK0
    rintro ⟨done, vl, n, last⟩ w2 ⟨hF, hR, hO, hB⟩
    dsimp only at hR hO hB
    have hnd : done.Nodup := by obtain ⟨_, _, _, _, _, _, _, _, q, _⟩ := hR; exact q
    have hsub : ∀ k ∈ done, k ∈ li := fun k hk => by
      obtain ⟨_, _, _, _, _, _, _, _, _, q, _⟩ := hR
      have := q k hk
      unfold keysF at this
      by_cases h : k ∈ li
      · exact h
      · rw [if_neg h] at this; exact absurd rfl this
    have hdl := nodup_sub_len hnd hsub
    have hits : w.heap.size ≤ it := by omega
    conv => whnf
    refine EvPrim.nextMap hinj hR (by simp [rsOf]) (fun hall => ?_) fun k b v w3 n' hn' hkd hk hv hF3 hR3 => ?_
    · conv => whnf
      refine EvIf.ff ?_
      conv => whnf
      exact hK0 (done, vl) _ _ (by (refine SubS.mk ?_ ?_ <;> (repeat' (first | exact True.intro | refine And.intro ?_ ?_)) <;> (first | rfl | exact svi (by omega) | exact List.mem_cons_self | exact List.mem_cons_of_mem _ List.mem_cons_self | exact List.mem_cons_of_mem _ (List.mem_cons_of_mem _ List.mem_cons_self) | skip))) ⟨hF, hO, hB, hnd, hdl, fun k => ⟨hsub k, fun hk => hall k (by unfold keysF; rw [if_pos hk]; simp)⟩⟩
    · conv => whnf
      refine EvIf.tt ?_
      conv => whnf
      refine EvRd.entryMap hR3 fun v' => ?_
      have hOn : ∀ b, vl.ownBlock = some b → b ∉ [it] := fun b hb => by
        have h1 := hO.ty hb
        obtain ⟨_, _, _, _, _, _, _, q, _⟩ := hR
        simp; rintro rfl
        unfold tyOf at h1
        rw [q] at h1; cases h1
      have hO3 := hO.fr hF3 hOn
      have hF03 : Fr [] w w3 := hF.trans' hF3 (by simp; omega)
      have hnd3 : (done ++ [k]).length ≤ li.length := nodup_sub_len (by obtain ⟨_, _, _, _, _, _, _, _, q, _⟩ := hR3; exact q) (fun j hj => by
        rcases List.mem_append.1 hj with hj | hj
        · exact hsub j hj
        · simp at hj; subst hj
          unfold keysF at hk
          by_cases h : j ∈ li
          · exact h
          · rw [if_neg h] at hk; cases hk)
      rw [List.length_append, List.length_singleton] at hnd3
      conv => whnf
      refine EvNew.blk fun g w4 hg hz4 hF4 hB4 => ?_
      conv => whnf
      refine EvApp.lit (cx_ok 0 []) rfl (⟨rfl, rfl, rfl, rfl⟩ : El (cx 0 []) 9 1 16 [.string ⟨#[]⟩]) (by omega) rfl (hO3.fr0 hF4) hB4 rfl (by simp [Value.oneCell']) (by omega) (by simp [maxLen]; omega) (by simp [rsOf]) fun v5 w5 hO5 hF5 hat => ?_
      conv => whnf
      have hs03 := hF03.size
      have hs4 := hF4.size
      have hR4 := hR3.fr hF4 (by simp) (by simp)
      have hlr := hM.lt
      have hitO : it ∉ vl.ownBlock.toList := fun hm => (by have := hOn it (toList_some.1 hm); simp at this)
      have hrO : r ∉ vl.ownBlock.toList := fun hm => by have := hB r (toList_some.1 hm); omega
      refine ⟨(done ++ [k], v5, n', some k), by (refine SubS.mk ?_ ?_ <;> (repeat' (first | exact True.intro | refine And.intro ?_ ?_)) <;> (first | rfl | exact svi (by omega) | exact List.mem_cons_self | exact List.mem_cons_of_mem _ List.mem_cons_self | exact List.mem_cons_of_mem _ (List.mem_cons_of_mem _ List.mem_cons_self) | skip)), ⟨(hF03.trans hF4).trans' hF5 (fun y hy hl => by have := hB y (toList_some.1 hy); omega), hR4.fr hF5 hrO hitO, ?_, fun b hb => ?_⟩, hn'⟩
      · rw [List.length_append, List.map_append]
        exact hO5
      · rcases hat with e | e
        · exact hB b (e ▸ hb)
        · rw [e] at hb; injection hb with hb; omega
  · rintro ⟨L, vl⟩ w2 ⟨hF, hO, hB, hnd, hdl, hmem⟩
    dsimp only at hO hB hnd hdl hmem
    obtain ⟨A, c, rfl, _⟩ := hO.form
    conv => whnf
    refine EvCall.ret (sortT_ok hO (by omega)) (by simp [rsOf]) fun v w3 hF3 hq => ?_
    obtain ⟨rfl, hO3⟩ := hq
    conv => whnf
    refine ⟨hF.trans' hF3 (fun y hy hl => by have := hB y (toList_some.1 hy); omega), ?_⟩
    exact fin_T hO3 hB hnd hmem
end Go.Proofs.Tab
