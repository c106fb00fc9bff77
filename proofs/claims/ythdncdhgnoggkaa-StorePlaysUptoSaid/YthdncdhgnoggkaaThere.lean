/-
  The contract of looking a file up on a disk.
  Conditions: the disk lies in blocks of S; the names are at least one.
-/
import Derived.Test.YthdncdhgnoggkaaStep
set_option linter.unusedSimpArgs false
set_option linter.unusedVariables false
namespace Go.Proofs.Ythdncdhgnoggkaa
open Go.RowKit

theorem step_ok0 (ok : Bool) (s : Dk) : (step ok s).1 = 0 ∨ (step ok s).1 = 42 ∨ (step ok s).1 = 60 ∨ (step ok s).1 = 61 ∨ (step ok s).1 = 62 := by
  unfold step
  dsimp only
  repeat' split
  all_goals simp

theorem DiskRep.lookD {S : Nat → Prop} {w : World} {db : Nat} {s : Dk} {r : Rep} (h : DiskRep S w db s r) (n : ByteArray) :
    (Instr.lookup 64 (.map (some r.dB)) (.string n) false).run Try.prog w = .ok ((find s.dir n).elim (.pointer none) (ofFile r.fb)) w :=
  h.dir.lookup Try.underlying64 Try.underlying9 (fun w => by kernel_rfl) n

set_option maxHeartbeats 1000000 in
theorem there_ok (S : Nat → Prop) (db : Nat) (A : Option Addr) (n c : Nat) (nm : ByteArray) (ss : List ByteArray) (s : Dk) (r : Rep) (w : World) (h : DiskRep S w db s r) (hn : StrsAt w A n (nm :: ss)) (hs : ∀ s ∈ nm :: ss, s.size ≤ 9223372036854775807)
    (hA : ∀ b o, A = some ⟨b, o, none⟩ → b ≠ db) :
    Calls Try.prog 61 #[fptr db, .slice A n c] w fun e w' => e = .returned (.tuple #[(there ((nm :: ss).all okName) nm s).2.1.elim (.pointer none) (ofFile r.fb), .int .i64 (there ((nm :: ss).all okName) nm s).1]) ∧
      DiskRep S w' db (there ((nm :: ss).all okName) nm s).2.2 r ∧ Touch (fun k => k = db) w w' := by
  have hn0 : 0 < n := by have := hn.1; simp at this; omega
  have hn1 := hn.2.1
  have hstep := step_ok S db A n c (nm :: ss) s r w h hn hs
  generalize hok : (nm :: ss).all okName = ok at hstep ⊢
  have e0 := step_ok0 ok s
  generalize hst : step ok s = st at hstep e0
  obtain ⟨e1, s1⟩ := st
  have HST := Lib.hid hst
  clear hst hok h
  unfold fptr at hstep ⊢
  dsimp only at hstep e0
  have HS := Lib.hid hstep
  clear hstep
  obtain ⟨b, o, rfl, hc⟩ := hn.2.2 hn0
  have hbd := hA b o rfl
  have hc0 := hc 0 hn0
  simp only [List.getD_cons_zero, Nat.add_zero] at hc0
  clear hc hA
  by_cases hz : e1 = 0
  · subst hz
    clear e0
    cases hfd : find s1.dir nm with
    | none =>
      have HT : there ok nm s = (63, none, s1) := by simp [there, HST.out, hfd]
      rw [HT]
      have HF := Lib.hid hfd
      clear HT hfd
      go_enter Try.func61, Try.ntmps61
      go_wp2_with fail
      refine HS.out.mono ?_
      rintro e w1 ⟨rfl, hd, ht⟩
      obtain ⟨⟨d0, d1, d2, d3, d4, d5, d6, d7⟩, hf', hlt'⟩ := cells8 hd.blk
      have hc1 : w1.cell? ⟨b, o, none⟩ = some (.string nm) := (World.cell?_of_block (ht.block b (World.block_lt_of_cell? w _ hc0) hbd)).trans hc0
      have hlk : ∀ nq, (Instr.lookup 64 (.map (some r.dB)) (.string nm) false).run Try.prog (w1.drewN nq) = .ok (.pointer none) (w1.drewN nq) := fun nq => by
        have := (hd.keep (w' := w1.drewN nq) (fun _ hs => hs) (fun _ _ _ => rfl)).lookD nm
        rw [HF.out] at this
        exact this
      go_wp2_with fail
      go_quiet (fail)
      go_wp2
      go_ret2
      exact ⟨rfl, hd.keep (fun _ hs => hs) (fun _ _ _ => rfl), ht.drewN _⟩
    | some i =>
      have HT : there ok nm s = (0, some i, s1) := by simp [there, HST.out, hfd]
      rw [HT]
      have HF := Lib.hid hfd
      clear HT hfd
      go_enter Try.func61, Try.ntmps61
      go_wp2_with fail
      refine HS.out.mono ?_
      rintro e w1 ⟨rfl, hd, ht⟩
      obtain ⟨⟨d0, d1, d2, d3, d4, d5, d6, d7⟩, hf', hlt'⟩ := cells8 hd.blk
      have hc1 : w1.cell? ⟨b, o, none⟩ = some (.string nm) := (World.cell?_of_block (ht.block b (World.block_lt_of_cell? w _ hc0) hbd)).trans hc0
      have hlk : ∀ nq, (Instr.lookup 64 (.map (some r.dB)) (.string nm) false).run Try.prog (w1.drewN nq) = .ok (.pointer (some ⟨fileB r.fb i, 0, none⟩)) (w1.drewN nq) := fun nq => by
        have := (hd.keep (w' := w1.drewN nq) (fun _ hs => hs) (fun _ _ _ => rfl)).lookD nm
        rw [HF.out] at this
        exact this
      have HE : Hid (ofFile r.fb i = .pointer (some ⟨fileB r.fb i, 0, none⟩)) := rfl
      go_wp2_with fail
      go_quiet (fail)
      go_wp2
      go_ret2
      exact ⟨rfl, hd.keep (fun _ hs => hs) (fun _ _ _ => rfl), ht.drewN _⟩
  · have HT : there ok nm s = (e1, none, s1) := by simp [there, HST.out, hz]
    rw [HT]
    have b1 : (e1 == 0) = false := beq_eq_false_iff_ne.2 hz
    have b2 : (e1 != 0) = true := bne_iff_ne.2 hz
    clear HT e0 hz
    go_enter Try.func61, Try.ntmps61
    go_wp2_with fail
    refine HS.out.mono ?_
    rintro e w1 ⟨rfl, hd, ht⟩
    go_wp2
    go_ret2
    exact ⟨rfl, hd, ht⟩
end Go.Proofs.Ythdncdhgnoggkaa
