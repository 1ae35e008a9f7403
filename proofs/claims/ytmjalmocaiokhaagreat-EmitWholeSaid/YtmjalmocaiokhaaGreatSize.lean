/- The helpers that count. No condition. -/
import Derived.Test.YtmjalmocaiokhaaGreatCopy
set_option linter.unusedVariables false
set_option linter.unusedSimpArgs false
namespace Go.Proofs.Tab
open Go Go.Fw

theorem TextsAt.idx {w : World} {A : Option Addr} {l : List ByteArray} (h : TextsAt w A l) {n sz i : Nat} {K : Addr → Prop} (h1 : i < l.length) (hn : n = l.length) (hs : sz = 1) (k : ∀ a, A = some a → K (a.add i)) : EvIdx A n (i : Int) sz K := by
  obtain ⟨a, ha, _⟩ := Rows.at_ h (by rw [List.length_map]; omega)
  exact ⟨a, ha, by omega, by omega, by rw [hs, Nat.mul_one]; exact k a ha⟩
theorem TextsAt.ld {w : World} {A : Option Addr} {l : List ByteArray} (h : TextsAt w A l) {a : Addr} (ha : A = some a) {i : Nat} (hi : i < l.length) {K : Value → Prop} (k : K (.string l[i])) : EvLd w (a.add i) K := by
  have := Rows.cell h ha (i := i) (j := 0) (r := [.string l[i]]) (v := .string l[i]) (by rw [List.getElem?_map, List.getElem?_eq_getElem hi]; rfl) rfl
  exact ⟨_, by simpa using this, k⟩

theorem long_ok (n : Int) (w : World) : Ret Tryz.prog 4 [.int .i64 n] w [] fun v w' => w' = w ∧ v = .bool (decide (n > 16777216)) := by
  refine fn_go (cx_ok 5 []) wideOrders Tryz.func4 rfl rfl Tryz.call4 (by simp [cx]) ?_; conv => whnf
  exact ⟨Fr.refl _ _, rfl, rfl⟩

theorem sizeTexts_ok (A : Option Addr) (c : Nat) (l : List ByteArray) (w : World) (hl : TextsAt w A l) (hs : SmTexts l) :
    Ret Tryz.prog 14 [.slice A l.length c] w [] fun v w' => w' = w ∧ ∃ m : Int, v = .int .i64 m ∧ 0 ≤ m ∧ m ≤ 1000000000000000 ∧ (m ≤ 16777216 → m = (sizeTexts l : Nat)) := by
  refine fn_go (cx_ok 25 []) wideOrders Tryz.func14 rfl rfl Tryz.call14 (by simp [cx]) ?_; conv => whnf
  have hlen := hs.1
  unfold B47 at hlen
  refine EvLoop.go (Nat × Int) (fun x => ⟨[(0, .v (.slice A l.length c)), (3, .v (.int .i64 x.2)), (4, .v (.int .i64 x.1))], [], 0⟩)
    (fun x w' => w' = w ∧ x.1 ≤ l.length ∧ x.2 = ((l.length + ((l.take x.1).map (fun (s : ByteArray) => s.size)).sum : Nat) : Int) ∧ x.2 ≤ 500000000000000) (fun x => l.length - x.1) (0, l.length) ?_ ⟨rfl, by omega, by simp, by dsimp only; omega⟩ ?_
  · (refine SubS.mk ?_ ?_ <;> (repeat' (first | exact True.intro | refine And.intro ?_ ?_)) <;> (first | rfl | exact svi (by omega) | exact List.mem_cons_self | exact List.mem_cons_of_mem _ List.mem_cons_self | exact List.mem_cons_of_mem _ (List.mem_cons_of_mem _ List.mem_cons_self) | skip))
  · rintro ⟨i, n⟩ w' ⟨rfl, h1, h2, h3⟩
    dsimp only at h1 h2 h3
    conv => whnf
    refine EvSplit.lt (fun g1 => ?_) (fun g1 => ?_)
    · have hi : i < l.length := by omega
      conv => whnf
      refine EvIf.le (fun g2 => ?_) (fun g2 => ?_)
      · conv => whnf
        refine TextsAt.idx hl hi rfl rfl fun a ha => ?_
        conv => whnf
        refine TextsAt.ld hl ha hi ?_
        conv => whnf
        have hsz := hs.2 l[i] (List.getElem_mem hi)
        unfold B47 at hsz
        have e := sum_take_succ (fun (s : ByteArray) => s.size) l hi
        refine EvAr.i64 (by omega) ?_; conv => whnf
        refine EvAr.i64 (by omega) ?_; conv => whnf
        refine ⟨(i + 1, n + (l[i].size : Int)), ?_, ⟨rfl, by dsimp only; omega, ?_, ?_⟩, by dsimp only; omega⟩
        rotate_left
        · show n + _ = _
          rw [e, h2]
          simp only [Int.natCast_add]
          omega
        · dsimp only
          omega
        · (refine SubS.mk ?_ ?_ <;> (repeat' (first | exact True.intro | refine And.intro ?_ ?_)) <;> (first | rfl | exact svi (by omega) | exact List.mem_cons_self | exact List.mem_cons_of_mem _ List.mem_cons_self | exact List.mem_cons_of_mem _ (List.mem_cons_of_mem _ List.mem_cons_self) | skip))
      · conv => whnf
        refine ⟨Fr.refl _ _, rfl, n, rfl, by omega, by omega, fun h => by omega⟩
    · conv => whnf
      obtain rfl : i = l.length := by omega
      refine ⟨Fr.refl _ _, rfl, n, rfl, by omega, by omega, fun h => ?_⟩
      rw [h2, List.take_length]
      rfl

theorem sizeNodes_ok (A : Option Addr) (c : Nat) (l : List Nd) (w : World) (hl : NodesAt w A l) (hs : SmNodes l) :
    Ret Tryz.prog 30 [.slice A l.length c] w [] fun v w' => w' = w ∧ ∃ m : Int, v = .int .i64 m ∧ 0 ≤ m ∧ m ≤ 1000000000000000 ∧ (m ≤ 16777216 → m = (sizeNodes l : Nat)) := by
  refine fn_go (cx_ok 26 []) wideOrders Tryz.func30 rfl rfl Tryz.call30 (by simp [cx]) ?_; conv => whnf
  have hlen := hs.1
  unfold B47 at hlen
  refine EvLoop.go (Nat × Int) (fun x => ⟨[(0, .v (.slice A l.length c)), (3, .v (.int .i64 x.2)), (4, .v (.int .i64 x.1))], [], 0⟩)
    (fun x w' => w' = w ∧ x.1 ≤ l.length ∧ x.2 = ((l.length + ((l.take x.1).map (fun (x : Nd) => x.text.size)).sum : Nat) : Int) ∧ x.2 ≤ 500000000000000) (fun x => l.length - x.1) (0, l.length) ?_ ⟨rfl, by omega, by simp, by dsimp only; omega⟩ ?_
  · (refine SubS.mk ?_ ?_ <;> (repeat' (first | exact True.intro | refine And.intro ?_ ?_)) <;> (first | rfl | exact svi (by omega) | exact List.mem_cons_self | exact List.mem_cons_of_mem _ List.mem_cons_self | exact List.mem_cons_of_mem _ (List.mem_cons_of_mem _ List.mem_cons_self) | skip))
  · rintro ⟨i, n⟩ w' ⟨rfl, h1, h2, h3⟩
    dsimp only at h1 h2 h3
    conv => whnf
    refine EvSplit.lt (fun g1 => ?_) (fun g1 => ?_)
    · have hi : i < l.length := by omega
      conv => whnf
      refine EvIf.le (fun g2 => ?_) (fun g2 => ?_)
      · conv => whnf
        refine EvIdx.node hl (by omega) (by omega) rfl fun a ha => ?_
        rw [Int.toNat_natCast]
        conv => whnf
        refine EvLd.node hl ha hi rfl ?_
        conv => whnf
        have hsz := hs.2 l[i] (List.getElem_mem hi)
        unfold B47 at hsz
        have e := sum_take_succ (fun (x : Nd) => x.text.size) l hi
        refine EvAr.i64 (by omega) ?_; conv => whnf
        refine EvAr.i64 (by omega) ?_; conv => whnf
        refine ⟨(i + 1, n + (l[i].text.size : Int)), ?_, ⟨rfl, by dsimp only; omega, ?_, ?_⟩, by dsimp only; omega⟩
        rotate_left
        · show n + _ = _
          rw [e, h2]
          simp only [Int.natCast_add]
          omega
        · dsimp only
          omega
        · (refine SubS.mk ?_ ?_ <;> (repeat' (first | exact True.intro | refine And.intro ?_ ?_)) <;> (first | rfl | exact svi (by omega) | exact List.mem_cons_self | exact List.mem_cons_of_mem _ List.mem_cons_self | exact List.mem_cons_of_mem _ (List.mem_cons_of_mem _ List.mem_cons_self) | skip))
      · conv => whnf
        refine ⟨Fr.refl _ _, rfl, n, rfl, by omega, by omega, fun h => by omega⟩
    · conv => whnf
      obtain rfl : i = l.length := by omega
      refine ⟨Fr.refl _ _, rfl, n, rfl, by omega, by omega, fun h => ?_⟩
      rw [h2, List.take_length]
      rfl

theorem sizeAb_ok (r : List Value) (a : Ab) (w : World) (ha : AbAt w r a) (hs : SmAb a) :
    Ret Tryz.prog 15 [.agg r.toArray] w [] fun v w' => ∃ m : Int, v = .int .i64 m ∧ 0 ≤ m ∧ m ≤ 2000000000000000 ∧ (m ≤ 16777216 → m = (sizeAb a : Nat)) := by
  obtain ⟨As, cs, At, ct, rfl, h1, h2, _, _⟩ := ha
  have hlen := hs.1
  unfold B47 at hlen
  refine fn_go (cx_ok 10 []) wideOrders Tryz.func15 rfl rfl Tryz.call15 (by simp [cx]) ?_; conv => whnf
  refine EvNew.blk fun rb w1 hr hz hF1 hB1 => ?_
  conv => whnf
  refine EvDraw.go (fun w' => Fr [] w w') none (.take 0 true (.take 1 true (.take 2 true (.take 3 true (.take 4 true (.exec 5 (.take 6 true (.take 7 true .done)))))))) (by kernel_rfl) ?_ ?_
  · exact hF1.trans (Fr.drew _)
  conv => whnf
  refine EvCall.ret0 (sizeNodes_ok At ct a.tree w1.drew (h2.fr0 (hF1.trans (Fr.drew _))) hs.2) fun v w2 hF2 hq => ?_
  obtain ⟨rfl, m, rfl, g1, g2, g3⟩ := hq
  have hF := hF1.trans (Fr.drew w1)
  conv => whnf
  refine ⟨hF, ?_⟩
  conv => whnf
  refine EvAr.i64 (by omega) ?_; conv => whnf
  refine ⟨hF, _, rfl, by omega, by omega, fun h => ?_⟩
  have := g3 (by omega)
  unfold sizeAb
  omega
end Go.Proofs.Tab
