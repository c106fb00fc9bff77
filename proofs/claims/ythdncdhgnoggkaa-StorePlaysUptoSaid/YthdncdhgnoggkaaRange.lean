/-
  A range over a function, at the fence that asks nothing: the statement, and one round.
  No condition.
-/
import Derived.Test.YthdncdhgnoggkaaFit
import Derived.RangeFuncNested
import Derived.RangeFuncBound
import Derived.RangeFuncCalls
import Derived.RangeFuncLeaves
import Derived.WalkKit
import Derived.OwnWalkIn
import Derived.TacticsInMore
set_option linter.unusedSimpArgs false
set_option linter.unusedVariables false
namespace Go.Proofs.Ythdncdhgnoggkaa
open Go.RowKit

theorem putObj_back {W : World} {l : Nat} {o o' : Obj} (h : W.heap[l]? = some o) : (W.putObj l o').putObj l o = W := by
  have hl := (Array.getElem?_eq_some_iff.1 h).1
  have e : ((W.putObj l o').putObj l o).heap = W.heap := by
    apply Array.ext_getElem?
    intro i
    by_cases hi : i = l
    · subst hi
      rw [World.putObj_heap_same (by simpa [World.putObj] using hl)]
      exact h.symm
    · rw [World.putObj_heap_other hi, World.putObj_heap_other hi]
  have e2 : ((W.putObj l o').putObj l o) = { W with heap := ((W.putObj l o').putObj l o).heap } := rfl
  rw [e2, e]

theorem range_raw {P : Program} {n : Nat} {g : Operand} {ps : Array Tmp} {assign body : Code} {Q : Exit → Act → World → Prop} {a : Act} {w : World} {gf : Nat} {lb : Array Value}
    (hg : a.eval g = .func (.func gf) #[] lb) (eg : ∀ args w, (callFunc gf args).run P w = .ok (.enter gf args) w)
    (h : ∀ (fn : FuncId) (rec : Loop), rec = { state := .ready, pending := none, fn, tmps := a.tmps, params := ps, assign, body, defers := w.heap.size } → CallsIn Fence.wide n P gf (#[.func (.yield (w.heap.size + 1)) #[] #[]] ++ lb) ((w.alloc (.deferred (some []))).alloc (.loop rec))
      (rangePost Fence.wide (n + 1) P (w.heap.size + 1) Q { a with defers := { target := .collected w.heap.size, args := #[] } :: a.defers })) :
    (Code.rangeFunc g ps assign body).wpIn Fence.wide (n + 1) P Q a w := by
  refine wpIn_rangeFunc ?_
  intro fn _
  obtain ⟨W1, hW1⟩ : ∃ W1, (w.alloc (.deferred (some []))).alloc (.loop { state := .ready, pending := none, fn, tmps := a.tmps, params := ps, assign, body, defers := w.heap.size }) = W1 := ⟨_, rfl⟩
  have he := run_enterLoop_outer (P := P) (w := w) fn a.tmps ps assign body
  have h2 := h fn _ rfl
  rw [hW1] at he h2
  refine ⟨w.heap.size + 1, [{ target := .collected w.heap.size, args := #[] }], W1, { target := .fn (.func gf) lb, args := #[.func (.yield (w.heap.size + 1)) #[] #[]] }, W1, gf,
    #[.func (.yield (w.heap.size + 1)) #[] #[]] ++ lb, W1, ?_, ?_, ?_, ?_, ?_, ?_⟩
  · exact he
  · simp only [resolve, hg]
    simp [go_sem]
  · intro f' _; trivial
  · simp [invoke, go_sem, eg]
  · intro _; exact Nat.le_add_left 1 n
  · rw [Nat.add_sub_cancel]; exact h2

theorem round_raw {P : Program} {m l : Nat} {r : Loop} {W : World} {args : Array Value} {R : Ending → World → Prop} (hl : W.heap[l]? = some (.loop r)) (hr : r.state = .ready) (hs : args.size = r.params.size)
    (h : r.assign.wpIn (Fence.wide.inRound l) m P (Exit.then (fun a₁ w₁ => w₁ = W ∧ r.body.wpIn (Fence.wide.inRound l) m P (roundPost P l R) a₁ (W.putObj l (.loop { r with state := .busy }))) (fun _ _ _ => False))
      { tmps := (r.params.zip args).foldl (fun tmps (t, a) => tmps.setIfInBounds t a) r.tmps, defers := [] } W) :
    YieldAt Fence.wide m P l args W R := by
  refine ⟨_, _, _, _, run_yield hl hs, roundIn_of_wpIn trivial (wpIn_mono h ?_)⟩
  intro e a1 w1 hq
  cases e with
  | normal =>
    obtain ⟨rfl, hb⟩ := hq
    exact ⟨_, run_beginRound hl hr, hb⟩
  | _ => exact hq
end Go.Proofs.Ythdncdhgnoggkaa
