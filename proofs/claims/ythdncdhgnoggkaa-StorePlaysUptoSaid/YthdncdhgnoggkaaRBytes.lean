/-
  Laws for the walk: bytes appended to a row of one's own, whatever the source (nil too).
  Conditions: the bytes are few enough for their slices.
-/
import Derived.Test.YthdncdhgnoggkaaROps
import Derived.Deep.RegionHeld3
import Derived.Deep.DrawnRows
set_option linter.unusedSimpArgs false
set_option linter.unusedVariables false
namespace Go.Proofs.Ythdncdhgnoggkaa
open Go.RowKit

theorem u8s_append (a b : List Int) : u8s (a ++ b) = u8s a ++ u8s b := by simp [u8s]
theorem own_slice {w : World} {base : Nat} {e : TypeId} {size : Nat} {v : Value} {n : Nat} {xs : List Value} (h : w.ownsRow base e size v n xs) : ∃ A c, v = .slice A n c := by
  rcases h.2 with ⟨e, hn⟩ | ⟨g, cap, cur, e, _⟩
  · exact ⟨none, 0, by rw [e, hn]⟩
  · exact ⟨_, _, e⟩
theorem run_append_src (w : World) (base ty : Nat) (v sv : Value) (n : Nat) (xs ys : List Int) (hown : w.ownsRow base 5 1 v n (u8s xs)) (hs : Src w sv ys) (hl : n + ys.length ≤ 140737488355328) (hbase : base ≤ w.heap.size) :
    ∃ v' w', (Builtin.append_ #[22, 22] ty #[v, sv]).run Try.prog w = .ok v' w' ∧ w'.ownsRow base 5 1 v' (n + ys.length) (u8s (xs ++ ys)) ∧ w.grownBy w' v.ownBlock ∧ (v'.ownBlock = v.ownBlock ∨ v'.ownBlock = some w.heap.size) := by
  obtain ⟨i0, hi, hz0, hz1, hz2⟩ := info_parts info5
  rw [u8s_append]
  rcases hs.2 with ⟨rfl, rfl⟩ | ⟨ad, c, rfl, hc⟩
  · have := run_append_owned_none (P := Try.prog) (w := w) base 22 ty 5 i0 1 Try.underlying22 hi v n (u8s xs) hown
    refine ⟨v, w, this, by simpa [u8s] using hown, ⟨rfl, rfl, rfl, Nat.le_refl _, fun _ _ _ => rfl⟩, .inl rfl⟩
  · obtain ⟨v', w', h1, h2, h3, _, h5⟩ := run_append_own_at (P := Try.prog) w base 22 ty 5 i0 _ 1 1 Try.underlying22 hi hz0 hz1 hz2 rfl (by decide) v n (u8s xs) hown ad ys.length c (u8s ys) (by simp [u8s]) hc (u8s_one ys) (by unfold maxLen; omega) (by omega) hbase
    exact ⟨v', w', h1, h2, h3, h5⟩
theorem wp_append_src {w : World} {o : Oper} {a : Act} {K : Act → World → Prop} {Q : Exit → Act → World → Prop} (s x : Operand) (ho : o.op = .call { callee := .builtin .append, args := #[s, x], argTypes := #[22, 22] })
    (base : Nat) (v sv : Value) (n : Nat) (xs ys : List Int) (he : a.eval s = v) (hx : a.eval x = sv) (hown : w.ownsRow base 5 1 v n (u8s xs)) (hs : Src w sv ys) (hl : n + ys.length ≤ 140737488355328) (hbase : base ≤ w.heap.size)
    (h : ∀ A c w', w'.ownsRow base 5 1 (.slice A (n + ys.length) c) (n + ys.length) (u8s (xs ++ ys)) → w.grownBy w' v.ownBlock → ((Value.slice A (n + ys.length) c).ownBlock = v.ownBlock ∨ (Value.slice A (n + ys.length) c).ownBlock = some w.heap.size) → K (a.put o.dst (.slice A (n + ys.length) c)) w') : o.wp Try.prog a w K Q := by
  obtain ⟨v', w', hr, h2, h3, h4⟩ := run_append_src w base o.type v sv n xs ys hown hs hl hbase
  obtain ⟨A, c, rfl⟩ := own_slice h2
  unfold Oper.wp execOp
  simp only [ho, resolve, invoke, builtin, Sem.run_bind, Sem.run_pure, Result.andThen_ok, List.map_toArray, List.map_cons, List.map_nil, he, hx, hr]
  exact h A c w' h2 h3 h4
theorem step_append_src {w : World} {ops : Array Oper} {o : Oper} {a : Act} {K : Act → World → Prop} {Q : Exit → Act → World → Prop} {E : Prop} (hgd : o.guard = none) (s x : Operand) (ho : o.op = .call { callee := .builtin .append, args := #[s, x], argTypes := #[22, 22] })
    (base : Nat) (v sv : Value) (n : Nat) (xs ys : List Int) (he : a.eval s = v) (hx : a.eval x = sv) (hown : w.ownsRow base 5 1 v n (u8s xs)) (hs : Src w sv ys) (hl : n + ys.length ≤ 140737488355328) (hbase : base ≤ w.heap.size)
    (h : ∀ A c w', w'.ownsRow base 5 1 (.slice A (n + ys.length) c) (n + ys.length) (u8s (xs ++ ys)) → w.grownBy w' v.ownBlock → ((Value.slice A (n + ys.length) c).ownBlock = v.ownBlock ∨ (Value.slice A (n + ys.length) c).ownBlock = some w.heap.size) → K (a.put o.dst (.slice A (n + ys.length) c)) w') :
    if Region.wanted o (yielded ops a.tmps) = true then Oper.wp Try.prog o a w K Q else E := by
  have hw : Region.wanted o (yielded ops a.tmps) = true := by simp [Region.wanted, hgd]
  rw [if_pos hw]
  exact wp_append_src s x ho base v sv n xs ys he hx hown hs hl hbase h
/-- An empty row that has just been made. -/
theorem own_made (w : World) (fr : Nat × Nat) (hf : fr = (0, 0)) : (w.alloc (.cells #[] 5 fr)).ownsRow w.heap.size 5 1 (.slice (some ⟨w.heap.size, 0, none⟩) 0 0) 0 (u8s []) := by
  subst hf
  exact ⟨rfl, .inr ⟨w.heap.size, 0, #[], rfl, Nat.le_refl _, World.alloc_heap_new w _, Nat.le_refl _, by unfold maxLen; omega, rfl, rfl⟩⟩
end Go.Proofs.Ythdncdhgnoggkaa
