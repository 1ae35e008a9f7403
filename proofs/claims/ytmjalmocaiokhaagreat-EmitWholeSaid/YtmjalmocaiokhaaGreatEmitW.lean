/- Package emit: Able. No condition. -/
import Derived.Test.YtmjalmocaiokhaaGreatEmitG
set_option linter.unusedVariables false
set_option linter.unusedSimpArgs false
set_option maxRecDepth 100000
namespace Go.Proofs.Tab
open Go Go.Fw

def poolP (ints : List Int) (texts : List ByteArray) : Pl := ⟨numF ints, numF texts⟩
theorem numF_range {α : Type} [DecidableEq α] (l : List α) (x : α) : 0 ≤ (numF l x).getD 0 ∧ (numF l x).getD 0 < 4096 := by
  unfold numF
  split
  · rename_i h; simp only [Option.getD_some]; omega
  · simp
theorem IsHole.lt {l : List (List Int)} {a : Nat} (h : IsHole l a) : a + 1 < l.flatten.length := by
  obtain ⟨l1, x, l2, rfl, _, h2, h3⟩ := h
  simp only [List.flatten_append, List.flatten_cons, List.length_append]
  omega
theorem made_lat {ints : List Int} {texts : List ByteArray} {a : Ab} {f : Fo} (ha : AbleP a f) : ∀ p ∈ (made0 (poolP ints texts) a.when f).later, p.1 + 1 < (made0 (poolP ints texts) a.when f).b.length := by
  obtain ⟨m, g, _⟩ := made_gs (P := poolP ints texts) (L := ⟨a.slots.length, 65536, 65536, False⟩) ha rfl fun x _ => by
    have h1 := fun n => numF_range ints n
    have h2 := fun n => numF_range texts n
    have pi : ∀ n, PI (poolP ints texts) ⟨a.slots.length, 65536, 65536, False⟩ n := fun n => ⟨(h1 n).1, by have := (h1 n).2; show (numF ints n).getD 0 < 65536; omega, by have := (h1 n).2; show (numF ints n).getD 0 < 65536; omega, fun h => h.elim⟩
    exact ⟨fun _ => pi _, fun _ => ⟨pi _, pi _, pi _⟩, fun _ => ⟨pi _, pi _⟩, fun _ => ⟨(h2 _).1, by have := (h2 x.text).2; show (numF texts x.text).getD 0 < 65536; omega, by have := (h2 x.text).2; show (numF texts x.text).getD 0 < 65536; omega, fun h => h.elim⟩⟩
  intro p hp
  have := (g.la p hp).1.lt
  rw [g.b]
  exact this

/-- The code that is made. -/
def codeOf (ints : List Int) (texts : List ByteArray) (a : Ab) (f : Fo) : List Int := layAll (made0 (poolP ints texts) a.when f).later (made0 (poolP ints texts) a.when f).b
def badOf (ints : List Int) (texts : List ByteArray) (a : Ab) (f : Fo) : Bool := (made0 (poolP ints texts) a.when f).bad
structure AbleR (ints : List Int) (texts : List ByteArray) (a : Ab) (lo : Nat) (v : Value) (w' : World) : Prop where
  h : (¬ (∃ f, AbleP a f) ∧ v = .tuple #[.slice none 0 0, .int .i64 1]) ∨ ∃ f, AbleP a f ∧ ((badOf ints texts a f = true ∧ v = .tuple #[.slice none 0 0, .int .i64 42]) ∨
    (badOf ints texts a f = false ∧ ∃ bv, v = .tuple #[bv, .int .i64 0] ∧ Own w' 5 1 bv (codeOf ints texts a f).length ((codeOf ints texts a f).map fun n => .int .u8 n) ∧ ∀ b, bv.ownBlock = some b → lo ≤ b))

theorem emitAble_ok {a : Ab} {As : Option Addr} {cs : Nat} {At : Option Addr} {ct : Nat} {ints : List Int} {texts : List ByteArray} {Ai Ax : Option Addr} {ci cx' : Nat} {w : World} (hS : SmallsAt w As a.slots) (hT : NodesAt w At a.tree) (hAl : ∀ x, At = some x → x.block < w.heap.size) (hsm : SmAb a)
    (hi : IntsAt w Ai ints) (hx : TextsAt w Ax texts) (hil : ints.length ≤ 1073741824) (hxl : texts.length ≤ 1073741824) :
    Ret Tryz.prog 9 [.agg (a.cells As cs At ct).toArray, .slice Ai ints.length ci, .slice Ax texts.length cx'] w [] fun v w' => AbleR ints texts a w.heap.size v w' := by
  refine fn_go (cx_ok 25 [3]) wideOrders Tryz.func9 rfl rfl Tryz.call9 (by simp [cx]) ?_; conv => whnf
  refine EvNew.blk fun r3 w1 hr3 hz3 hF1 hB1 => ?_
  conv => whnf
  refine ⟨_, rfl, fun j v hj => hB1.add0 hj, ?_⟩
  conv => whnf
  have hs1 := hF1.size
  refine EvCall.ret0 (able_ok (Rows.fr0 hS hF1) (Rows.fr0 hT hF1) (fun x hx => by have := hAl x hx; omega) hsm) fun v w2 hF2 hq => ?_
  obtain ⟨r, rfl, hr⟩ := hq
  have hF02 := hF1.trans hF2
  conv => whnf
  refine EvIf.not (fun c1 => ?_) (fun c1 => ?_)
  · conv => whnf
    exact ⟨hF02, ⟨.inl ⟨fun h => (by rw [hr.2 h] at c1; cases c1), rfl⟩⟩⟩
  obtain ⟨f, ha⟩ := hr.1 c1
  have hFd := Fr.drew w2
  conv => whnf
  refine EvDraw.go (fun w' => Fr [] w2 w') none (.take 0 true (.take 1 true (.take 3 true (.exec 2 (.exec 4 (.exec 5 (.take 6 true (.take 7 true (.take 8 true (.take 9 true (.take 10 true .done))))))))))) (by kernel_rfl) ?_ ?_
  · exact hFd
  conv => whnf
  refine ⟨_, rfl, fun w' hw j v hj => ((hB1.fr0 hF2).fr0 hw.1).add0 hj, ?_⟩
  conv => whnf
  have hF0d := hF02.trans hFd
  refine EvCall.ret0 (numbers_ints Ai ci ints w2.drew (Rows.fr0 hi hF0d) hil) fun v w3 hF3 hq => ?_
  obtain ⟨ir, rfl, _, hM3⟩ := hq
  conv => whnf
  refine ⟨hFd.trans hF3, ?_⟩
  conv => whnf
  have hF03 := hF0d.trans hF3
  refine EvCall.ret0 (numbers_texts Ax cx' texts w3 (Rows.fr0 hx hF03) hxl) fun v w4 hF4 hq => ?_
  obtain ⟨xr, rfl, _, hM4⟩ := hq
  conv => whnf
  refine ⟨(hFd.trans hF3).trans hF4, ?_⟩
  conv => whnf
  have hF04 := hF03.trans hF4
  have hs04 := hF04.size
  refine EvCall.ret0 (made_ok (P := poolP ints texts) (f := f) (Rows.fr0 hT hF04) (fun x hx => by have := hAl x hx; omega) (hM3.fr0 hF4) hM4 ha.fo ha.sz ha.tl (able_wfs ha) ha.len (made_lat ha)) fun v w5 hF5 hq => ?_
  obtain ⟨bv, rfl, hown, hlo⟩ := hq
  have hF05 := hF04.trans hF5
  conv => whnf
  refine ⟨((hFd.trans hF3).trans hF4).trans hF5, ?_⟩
  conv => whnf
  refine EvIf.not (fun c2 => ?_) (fun c2 => ?_)
  · conv => whnf
    refine ⟨hF05, ⟨.inr ⟨f, ha, .inl ⟨?_, rfl⟩⟩⟩⟩
    simpa [badOf] using c2
  · conv => whnf
    refine ⟨hF05, ⟨.inr ⟨f, ha, .inr ⟨?_, bv, rfl, ?_, fun b hb => (by have := hlo b hb; omega)⟩⟩⟩⟩
    · simpa [badOf] using c2
    · unfold codeOf
      rw [layAll_len]
      exact hown
end Go.Proofs.Tab
