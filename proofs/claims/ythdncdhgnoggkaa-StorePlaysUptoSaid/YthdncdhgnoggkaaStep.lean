/-
  The contract of the step ahead of each call on a disk, and of looking a file up.
  Conditions: the disk lies in blocks of S.
-/
import Derived.Test.YthdncdhgnoggkaaDisk
set_option linter.unusedSimpArgs false
set_option linter.unusedVariables false
namespace Go.Proofs.Ythdncdhgnoggkaa
open Go.RowKit

theorem w64_eq (x : Int) : w64 x = wrap64 x := by unfold w64 wrap64; omega

theorem Touch.set1 {S : Nat → Prop} {a w : World} (h : Touch S a w) (b k : Nat) (hp : S b ∨ a.heap.size ≤ b) (u : Value) : Touch S a (w.setCell ⟨b, k, none⟩ u) := h.setCell (p := ⟨b, k, none⟩) hp u
theorem touch_set (w : World) (b k : Nat) (v : Value) : Touch (fun j => j = b) w (w.setCell ⟨b, k, none⟩ v) :=
  (Touch.refl (fun j => j = b) w).setCell (p := ⟨b, k, none⟩) (.inl rfl) v

set_option maxHeartbeats 1000000 in
theorem step_ok (S : Nat → Prop) (db : Nat) (A : Option Addr) (n c : Nat) (ss : List ByteArray) (s : Dk) (r : Rep) (w : World) (h : DiskRep S w db s r) (hn : StrsAt w A n ss) (hs : ∀ s ∈ ss, s.size ≤ 9223372036854775807) :
    Calls Try.prog 49 #[fptr db, .slice A n c] w fun e w' => e = .returned (.int .i64 (step (ss.all okName) s).1) ∧ DiskRep S w' db (step (ss.all okName) s).2 r ∧ Touch (fun k => k = db) w w' := by
  obtain ⟨⟨c0, c1, c2, c3, c4, c5, c6, c7⟩, hf, hlt⟩ := cells8 h.blk
  unfold fptr
  cases hd : s.down with
  | true =>
    rw [hd] at c7
    have hst : step (ss.all okName) s = (62, s) := by simp [step, hd]
    rw [hst]
    have H := Lib.hid hd
    clear hd hst
    go_enter Try.func49, Try.ntmps49
    go_wp2
    go_ret
    exact ⟨rfl, h, Touch.refl _ _⟩
  | false =>
    rw [hd] at c7
    cases hok : ss.all okName with
    | false =>
      have hst : step false s = (42, s) := by simp [step, hd]
      rw [hst]
      have H := Lib.hid hd
      have H2 := Lib.hid hok
      clear hd hst hok
      go_enter Try.func49, Try.ntmps49
      go_wp2_with (go_at_call 68; refine (hasBad_ok _ _ _ ss _ hn hs).mono ?_; rintro e w' ⟨rfl, hb⟩; rw [H2.out])
      go_ret
      exact ⟨rfl, h.below hb, Touch.of_below hb⟩
    | true =>
      have hst : step true s = (if kindAt s.plan (w64 (s.steps + 1)) = 1 then (61, { s with steps := w64 (s.steps + 1) }) else if kindAt s.plan (w64 (s.steps + 1)) = 2 then (60, { s with steps := w64 (s.steps + 1) }) else if kindAt s.plan (w64 (s.steps + 1)) = 3 then (62, { { s with steps := w64 (s.steps + 1) } with down := true }) else (0, { s with steps := w64 (s.steps + 1) })) := by simp [step, hd]
      rw [hst]
      have H := Lib.hid hd
      have H2 := Lib.hid hok
      clear hd hst hok
      simp only [w64_eq]
      generalize hm : wrap64 (s.steps + 1) = m
      have HM := Lib.hid hm
      clear hm
      generalize hkk : kindAt s.plan m = kd
      have HK := Lib.hid hkk
      clear hkk
      go_enter Try.func49, Try.ntmps49
      go_wp2_with (go_at_call 68; refine (hasBad_ok _ _ _ ss _ hn hs).mono ?_; rintro e w' ⟨rfl, hb⟩; rw [H2.out]; obtain ⟨⟨d0, d1, d2, d3, d4, d5, d6, d7⟩, hf', hlt'⟩ := cells8 (below_heap hb h.blk))
      have r1 : DiskRep S w' db s r := h.below hb
      have hblk2 := heap_setCell8 r1.blk 6 (.int .i64 (wrap64 (s.steps + 1)))
      have r2 := r1.own (w' := w'.setCell ⟨db, 6, none⟩ (.int .i64 (wrap64 (s.steps + 1)))) (touch_set w' db 6 _) (wrap64 (s.steps + 1)) s.down (by rw [hblk2]; rfl)
      have t2 : Touch (fun k => k = db) w (w'.setCell ⟨db, 6, none⟩ (.int .i64 (wrap64 (s.steps + 1)))) := (Touch.of_below (S := fun k => k = db) hb).set1 db 6 (.inl rfl) _
      generalize w'.setCell ⟨db, 6, none⟩ (.int .i64 (wrap64 (s.steps + 1))) = w2 at r2 t2 ⊢
      rw [HM.out] at r2
      generalize wrap64 (s.steps + 1) = mm
      clear d0 d1 d2 d3 d4 d5 d6 d7 hf' hlt' hb hblk2 r1 w'
      obtain ⟨⟨d0, d1, d2, d3, d4, d5, d6, d7⟩, hf', hlt'⟩ := cells8 r2.blk
      replace d7 : w2.cell? ⟨db, 7, none⟩ = some (.bool false) := d7.trans (by rw [H.out])
      have hlk : ∀ nq, (Instr.lookup 67 (.map r.plan) (.int .i64 m) false).run Try.prog (w2.drewN nq) = .ok (.int .i64 kd) (w2.drewN nq) := fun nq => by
        have := (r2.plan.keep (w' := w2.drewN nq) (fun _ hs => hs) (fun _ _ => rfl)).look m
        rw [HK.out] at this
        exact this
      by_cases k1 : kd = 1
      · subst k1
        clear HK
        go_quiet (fail)
        go_wp2
        go_ret
        exact ⟨rfl, r2.keep (fun _ hs => hs) (fun _ _ _ => rfl), t2.drewN _⟩
      by_cases k2 : kd = 2
      · subst k2
        clear HK
        go_quiet (fail)
        go_wp2
        go_ret
        exact ⟨rfl, r2.keep (fun _ hs => hs) (fun _ _ _ => rfl), t2.drewN _⟩
      by_cases k3 : kd = 3
      · subst k3
        clear HK
        go_quiet (fail)
        go_wp2
        go_ret
        refine ⟨rfl, ?_, (t2.drewN _).set1 db 7 (.inl rfl) _⟩
        have r3 := r2.own (touch_set w2 db 7 (.bool true)) m true (by rw [heap_setCell8 r2.blk]; rfl)
        exact r3.keep (fun _ hs => hs) (fun _ _ _ => rfl)
      · have b1 : (kd == 1) = false := beq_eq_false_iff_ne.2 k1
        have b2 : (kd == 2) = false := beq_eq_false_iff_ne.2 k2
        have b3 : (kd == 3) = false := beq_eq_false_iff_ne.2 k3
        have K1 := Lib.hid k1
        have K2 := Lib.hid k2
        have K3 := Lib.hid k3
        clear HK k1 k2 k3
        go_quiet (fail)
        go_wp2
        go_ret
        exact ⟨rfl, r2.keep (fun _ hs => hs) (fun _ _ _ => rfl), t2.drewN _⟩
end Go.Proofs.Ythdncdhgnoggkaa
