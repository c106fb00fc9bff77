/-
  The contract of quirelaw22.alive: true.
  No condition.
-/
import Derived.Test.YthdncdhgnoggkaaSame
import Derived.Lib.SlBytesConst
set_option linter.unusedSimpArgs false
set_option linter.unusedVariables false
namespace Go.Proofs.Ythdncdhgnoggkaa
open Go.RowKit

def nameB : ByteArray := ⟨#[98]⟩
def sv : Dk := (save nameB [120] (fresh 100)).2
theorem sv_ok : (save nameB [120] (fresh 100)).1 = 0 := by decide
theorem sv_steps : sv.steps = 5 := by decide
theorem ld_ok : (load nameB (boot 0 [] sv)).1 = 0 ∧ (load nameB (boot 0 [] sv)).2.1 = some [120] := by decide
theorem temp_b : tmp nameB = ⟨#[98, 46, 116, 109, 112]⟩ := by decide
theorem bstr_x : bstr [120] = ⟨#[120]⟩ := by decide

theorem src_one {w : World} (x : Int) (fr : Nat × Nat) : Src (w.alloc (.cells #[.int .u8 x] 5 fr)) (.slice (some ⟨w.heap.size, 0, none⟩) 1 1) [x] := by
  refine ⟨by simp, .inr ⟨_, 1, rfl, fun j u hj => ?_⟩⟩
  have hl := (List.getElem?_eq_some_iff.1 hj).1
  simp [u8s] at hl
  subst hl
  simp [u8s] at hj
  subst hj
  have h1 := World.alloc_heap_new w (.cells #[.int .u8 x] 5 fr)
  have h2 : (⟨w.heap.size, 0, none⟩ : Addr).add 0 = ⟨w.heap.size, 0, none⟩ := by simp [Addr.add]
  rw [h2]
  simp only [World.cell?, h1]
  rfl
theorem tempb_ok (w : World) : Calls Try.prog 30 #[.string ⟨#[98]⟩] w fun e w' => e = .returned (.string ⟨#[98, 46, 116, 109, 112]⟩) ∧ w = w' := by
  have := temp_ok nameB w (by decide)
  rw [temp_b] at this
  exact this

set_option maxRecDepth 100000 in
set_option maxHeartbeats 4000000 in
theorem alive_ok (w : World) : Calls Try.prog 6 #[] w fun e w' => e = .returned (.bool true) ∧ Below w.heap.size w w' := by
  have HN := Lib.hid (new_ok 100 w (by omega))
  have HS : Hid (∀ w1, Disk (fun k => w.heap.size ≤ k) w1 (w.heap.size + 2) (fresh 100) → Below w.heap.size w w1 → Calls Try.prog 8 #[.pointer (some ⟨w.heap.size + 2, 0, none⟩), .string ⟨#[98]⟩, .slice (some ⟨w1.heap.size, 0, none⟩) 1 1] (w1.alloc (.cells #[.int .u8 120] 5 (1, 2))) fun e w' => e = .returned (.int .i64 0) ∧ Disk (fun k => w.heap.size ≤ k) w' (w.heap.size + 2) sv ∧ Below w.heap.size w w') := fun w1 hd hb => by
    have k := save_ok (Trim (fun k => w.heap.size ≤ k) w1) (w.heap.size + 2) (fresh 100) nameB [120] (.slice (some ⟨w1.heap.size, 0, none⟩) 1 1) (w1.alloc (.cells #[.int .u8 120] 5 (1, 2))) 0 0 (hd.trim.below ((Below.refl _ w1).alloc (Nat.le_refl _) _)) (src_one 120 (1, 2)) (fun ad n c e _ hs => by cases e; have := hs.2; simp at this) (by decide) (fit_fresh 100 (by omega)) (by omega) (by simp)
    rw [sv_ok] at k
    refine k.mono ?_
    rintro e w' ⟨rfl, hd2, ht2⟩
    have hb2 : Below w.heap.size w (w1.alloc (.cells #[.int .u8 120] 5 (1, 2))) := hb.alloc hb.size _
    refine ⟨rfl, hd2.mono (fun k hk => by rcases hk with hk | hk; exact hk.1; exact Nat.le_trans hb2.size hk), hb2.trans (ht2.below hb2.size (fun k hk hs => by have : w.heap.size ≤ k := hs.1; omega))⟩
  have HST : Hid (∀ w2, Disk (fun k => w.heap.size ≤ k) w2 (w.heap.size + 2) sv → Calls Try.prog 29 #[.pointer (some ⟨w.heap.size + 2, 0, none⟩)] w2 fun e w' => e = .returned (.int .i64 5) ∧ w' = w2) := fun w2 hd => by
    have k := dsteps_ok _ _ _ w2 hd
    rw [sv_steps] at k
    exact k
  have HB : Hid (∀ w2, Disk (fun k => w.heap.size ≤ k) w2 (w.heap.size + 2) sv → Below w.heap.size w w2 → Calls Try.prog 9 #[.pointer (some ⟨w.heap.size + 2, 0, none⟩), .int .i64 0, .slice none 0 0] w2 fun e w' => e = .returned (.tuple #[]) ∧ Disk (fun k => w.heap.size ≤ k) w' (w.heap.size + 2) (boot 0 [] sv) ∧ Below w.heap.size w w') := fun w2 hd hb => by
    obtain ⟨r, hd⟩ := hd
    have k := boot_ok _ _ sv r 0 none 0 0 [] w2 hd ⟨rfl, by omega, fun h => by omega⟩ (fun b o e _ => by cases e) (by omega)
    refine k.mono ?_
    rintro e w' ⟨rfl, hd2, ht2⟩
    exact ⟨rfl, hd2.mono (fun k hk => by rcases hk with hk | hk; exact hk; exact Nat.le_trans hb.size hk), hb.trans (ht2.below hb.size (fun k hk hs => by have : w.heap.size ≤ k := hs; omega))⟩
  have HL : Hid (∀ w2, Disk (fun k => w.heap.size ≤ k) w2 (w.heap.size + 2) (boot 0 [] sv) → Calls Try.prog 11 #[.pointer (some ⟨w.heap.size + 2, 0, none⟩), .string nameB] w2 (ReadP (fun k => w.heap.size ≤ k) w2 (w.heap.size + 2) (load nameB (boot 0 [] sv)))) := fun w2 hd => load_ok _ _ _ nameB w2 hd (by decide)
  unfold fptr at HN
  have e1 : load nameB (boot 0 [] sv) = (0, some [120], (load nameB (boot 0 [] sv)).2.2) := by
    have h := ld_ok
    generalize load nameB (boot 0 [] sv) = t at h
    obtain ⟨t1, t2, t3⟩ := t
    obtain ⟨h1, h2⟩ := h
    simp at h1 h2
    rw [h1, h2]
  rw [e1] at HL
  clear e1
  go_enter Try.func6, Try.ntmps6
  go_wp2_with (first | (go_at_call 7; refine HN.out.mono ?_; rintro e w1 ⟨rfl, hd1, hb1⟩; have hs := HS.out w1 hd1 hb1; have hcv := Lib.run_convert_bytes_const (P := Try.prog) w1 22 5 #[.int .u8 120] 1 1 Try.underlying22 Try.underlying5) | (go_at_call 8; refine hs.mono ?_; rintro e w2 ⟨rfl, hd2, hb2⟩; have hst := HST.out w2 hd2; have hbo := HB.out w2 hd2 hb2) | (go_at_call 29; refine hst.mono ?_; rintro e w3 ⟨rfl, hw3⟩; subst hw3) | (go_at_call 9; refine hbo.mono ?_; rintro e w4 ⟨rfl, hd4, hb4⟩; have hld := HL.out w4 hd4) | (go_at_call 11; refine hld.mono ?_; rintro e w5 ⟨v, rfl, hv, hd5, ht5⟩; have hcv5 := hv.src.conv; rw [show ((some [120] : Option (List Int)).getD []) = [120] from rfl, bstr_x] at hcv5) | (go_at_call 30; refine (tempb_ok _).mono ?_; rintro e w6 ⟨rfl, rfl⟩))
  go_ret
  exact ⟨rfl, hb4.trans (ht5.below hb4.size (fun k hk hs => by have : w.heap.size ≤ k := hs; omega))⟩
end Go.Proofs.Ythdncdhgnoggkaa
