/-
  The contracts of New, Down, Steps; of store.steps (the iterator's maker).
  Conditions: none but that the disk lies in blocks of S.
-/
import Derived.Test.YthdncdhgnoggkaaBoot
set_option linter.unusedSimpArgs false
set_option linter.unusedVariables false
namespace Go.Proofs.Ythdncdhgnoggkaa
open Go.RowKit

set_option maxRecDepth 100000 in
set_option maxHeartbeats 2000000 in
theorem new_bad (room : Int) (w : World) (h : ¬ (0 ≤ room ∧ room ≤ 1073741824)) :
    Calls Try.prog 7 #[.int .i64 room] w fun e w' => e = .returned (.tuple #[.pointer none, .int .i64 1]) ∧ w' = w := by
  by_cases h0 : room < 0
  · go_enter Try.func7, Try.ntmps7
    go_wp2
    go_ret2
    exact ⟨rfl, rfl⟩
  · have h1 : 1073741824 < room := by omega
    go_enter Try.func7, Try.ntmps7
    go_wp2
    go_ret2
    exact ⟨rfl, rfl⟩

theorem new_below (w : World) (o : Obj) : Below w.heap.size w (((w.alloc (.map #[] 0)).alloc (.map #[] 0)).alloc o) :=
  (((Below.refl _ w).alloc (Nat.le_refl _) _).alloc (by simp) _).alloc (by simp; omega) _
theorem fresh_rep (room : Int) (w : World) : Disk (fun k => w.heap.size ≤ k) (((w.alloc (.map #[] 0)).alloc (.map #[] 0)).alloc (.cells #[.int .i64 room, .slice none 0 0, .map (some w.heap.size), .map (some (w.heap.size + 1)), .slice none 0 0, .map none, .int .i64 0, .bool false] 69)) (w.heap.size + 2) (fresh room) := by
  have h1 : DirAt (w.alloc (.map #[] 0)) w.heap.size (ofFile []) [] := DirAt.made w _
  have h2 : DirAt ((w.alloc (.map #[] 0)).alloc (.map #[] 0)) (w.heap.size + 1) (ofFile []) [] := by
    have := DirAt.made (w.alloc (.map #[] 0)) (ofFile [])
    simpa using this
  refine ⟨⟨.slice none 0 0, w.heap.size, w.heap.size + 1, .slice none 0 0, none, []⟩, ?_⟩
  exact { sdb := by show w.heap.size ≤ w.heap.size + 2; omega, blk := by
            have := World.alloc_heap_new ((w.alloc (.map #[] 0)).alloc (.map #[] 0)) (.cells #[.int .i64 room, .slice none 0 0, .map (some w.heap.size), .map (some (w.heap.size + 1)), .slice none 0 0, .map none, .int .i64 0, .bool false] 69)
            rw [show ((w.alloc (.map #[] 0)).alloc (.map #[] 0)).heap.size = w.heap.size + 2 by simp] at this
            exact this,
          fbl := rfl, fbn := List.nodup_nil, rows := ⟨rfl, .inl ⟨rfl, rfl⟩⟩, rowS := fun k e => by simp [Value.ownBlock] at e,
          files := fun i f h => by simp [fresh] at h, sdB := Nat.le_refl _, dir := (h1.alloc _).alloc _, ssB := Nat.le_succ _, sdir := h2.alloc _, ne1 := by show w.heap.size ≠ w.heap.size + 1; omega,
          pend := ⟨rfl, .inl ⟨rfl, rfl⟩⟩, pendS := fun k e => by simp [Value.ownBlock] at e, plan := rfl, ne2 := by simp, ne3 := by simp,
          inD := fun p hp => by simp [fresh] at hp, inS := fun p hp => by simp [fresh] at hp, inP := fun p hp => by simp [fresh] at hp }

set_option maxRecDepth 100000 in
set_option maxHeartbeats 2000000 in
theorem new_ok (room : Int) (w : World) (h : 0 ≤ room ∧ room ≤ 1073741824) :
    Calls Try.prog 7 #[.int .i64 room] w fun e w' => e = .returned (.tuple #[fptr (w.heap.size + 2), .int .i64 0]) ∧ Disk (fun k => w.heap.size ≤ k) w' (w.heap.size + 2) (fresh room) ∧ Below w.heap.size w w' := by
  have hmm := @run_makeMap Try.prog
  have h0 : ¬ room < 0 := by omega
  have h1 : ¬ 1073741824 < room := by omega
  go_enter Try.func7, Try.ntmps7
  go_wp2
  go_ret2
  exact ⟨rfl, fresh_rep room w, new_below w _⟩

set_option maxRecDepth 100000 in
set_option maxHeartbeats 2000000 in
theorem down_ok (S : Nat → Prop) (db : Nat) (s : Dk) (w : World) (h : Disk S w db s) :
    Calls Try.prog 24 #[fptr db] w fun e w' => e = .returned (.bool s.down) ∧ w' = w := by
  obtain ⟨r, h⟩ := h
  unfold fptr
  obtain ⟨⟨d0, d1, d2, d3, d4, d5, d6, d7⟩, hf', hlt'⟩ := cells8 h.blk
  go_enter Try.func24, Try.ntmps24
  go_wp2
  go_ret
  exact ⟨rfl, rfl⟩

set_option maxRecDepth 100000 in
set_option maxHeartbeats 2000000 in
theorem dsteps_ok (S : Nat → Prop) (db : Nat) (s : Dk) (w : World) (h : Disk S w db s) :
    Calls Try.prog 29 #[fptr db] w fun e w' => e = .returned (.int .i64 s.steps) ∧ w' = w := by
  obtain ⟨r, h⟩ := h
  unfold fptr
  obtain ⟨⟨d0, d1, d2, d3, d4, d5, d6, d7⟩, hf', hlt'⟩ := cells8 h.blk
  go_enter Try.func29, Try.ntmps29
  go_wp2
  go_ret
  exact ⟨rfl, rfl⟩

set_option maxRecDepth 100000 in
set_option maxHeartbeats 2000000 in
theorem lsteps_ok (d v : Value) (p : ByteArray) (w : World) (hp : p.size ≤ 140737488355328) (hd : ∃ a, d = .pointer a) (hv : ∃ A n c, v = .slice A n c) :
    Calls Try.prog 31 #[d, .string p, v] w fun e w' => e = .returned (.func (.func 57) #[] #[.pointer (some ⟨w.heap.size, 0, none⟩), .pointer (some ⟨w.heap.size + 3, 0, none⟩), .pointer (some ⟨w.heap.size + 2, 0, none⟩), .pointer (some ⟨w.heap.size + 1, 0, none⟩)]) ∧
      w' = (((w.alloc (.cells #[d] 25)).alloc (.cells #[.string p] 9)).alloc (.cells #[v] 22)).alloc (.cells #[.string (tmp p)] 9) := by
  obtain ⟨a, rfl⟩ := hd
  obtain ⟨A, n, c, rfl⟩ := hv
  go_enter Try.func31, Try.ntmps31
  go_wp2_with (go_at_call 30; refine (temp_ok _ _ hp).mono ?_; rintro e w1 ⟨rfl, rfl⟩)
  go_ret
  exact ⟨rfl, rfl⟩
end Go.Proofs.Ythdncdhgnoggkaa
