/-
  The contracts of store.Load, store.Recover.
  Conditions: the disk lies in blocks of S; bounds on how great all is.
-/
import Derived.Test.YthdncdhgnoggkaaList
import Derived.Test.YthdncdhgnoggkaaSave
set_option linter.unusedSimpArgs false
set_option linter.unusedVariables false
namespace Go.Proofs.Ythdncdhgnoggkaa
open Go.RowKit

theorem beq_bytes (a b : ByteArray) : (a == b) = decide (a = b) := by
  have h : (a == b) = (a.data == b.data) := by cases a; cases b; rfl
  rw [h]
  by_cases e : a = b
  · subst e; simp
  · have : ¬ a.data = b.data := fun h => e (by cases a; cases b; simp_all)
    simp [e, this]
theorem strIn_listing (s : Dk) (n : ByteArray) : strIn n (listing s) = listed s n := by
  unfold listing listed
  cases s.down with
  | true => rfl
  | false =>
    have key : strIn n (sortedKeys s.dir) = true ↔ (s.dir.any fun p => p.1 == n) = true := by
      unfold strIn sortedKeys keysOf
      rw [List.contains_iff_mem, List.mem_mergeSort, List.mem_map, List.any_eq_true]
      constructor
      · rintro ⟨p, hp, e⟩
        exact ⟨p, hp, by rw [beq_bytes]; exact decide_eq_true (Go.WideShapes.bytes_inj e)⟩
      · rintro ⟨p, hp, e⟩
        rw [beq_bytes] at e
        exact ⟨p, hp, by rw [of_decide_eq_true e]⟩
    simp only [Bool.false_eq_true, if_false, Bool.not_false, Bool.true_and]
    exact Bool.eq_iff_iff.2 key

set_option maxRecDepth 100000 in
set_option maxHeartbeats 2000000 in
theorem load_ok (S : Nat → Prop) (db : Nat) (s : Dk) (p : ByteArray) (w : World) (h : Disk S w db s) (hp : p.size ≤ 70368744177664) :
    Calls Try.prog 11 #[fptr db, .string p] w (ReadP S w db (load p s)) := by
  have hR : ∀ u : World, Calls Try.prog 27 #[.string p] u fun e w' => e = .returned (.bool (right p)) ∧ Below u.heap.size u w' := fun u => right_ok p u (by omega)
  unfold fptr
  by_cases hr : right p = true
  · have HE : load p s = read p s := by simp [load, hr]
    rw [HE]
    rw [hr] at hR
    have HR := Lib.hid (hR w)
    have HRD : Hid (∀ w1, Below w.heap.size w w1 → Calls Try.prog 37 #[.pointer (some ⟨db, 0, none⟩), .string p] w1 (ReadP S w1 db (read p s))) := fun w1 hb => by
      obtain ⟨r, h⟩ := h
      exact read_ok S db s r p w1 (h.below hb) (by omega)
    clear hR HE
    go_enter Try.func11, Try.ntmps11
    go_wp2_with (first | (go_at_call 27; refine HR.out.mono ?_; rintro e w1 ⟨rfl, hb1⟩; have hrd := HRD.out w1 hb1) | (go_at_call 37; refine hrd.mono ?_; rintro e w2 ⟨v, rfl, hv, hd2, ht2⟩))
    go_ret2
    exact ⟨v, rfl, hv.keep (fun k hk => by have := hb1.size; show w.heap.size ≤ k; have : w1.heap.size ≤ k := hk; omega) (fun k o ho _ _ => ho), hd2.mono (fun k hk => by rcases hk with hk | hk; exact .inl hk; exact .inr (by have := hb1.size; omega)), (Touch.of_below hb1).trans (ht2.mono (fun k _ hk => .inl hk))⟩
  · have hr' : right p = false := by simpa using hr
    have HE : load p s = (1, none, s) := by simp [load, hr']
    rw [HE]
    rw [hr'] at hR
    have HR := Lib.hid (hR w)
    clear hR HE
    go_enter Try.func11, Try.ntmps11
    go_wp2_with (go_at_call 27; refine HR.out.mono ?_; rintro e w1 ⟨rfl, hb1⟩)
    go_ret2
    exact ⟨_, rfl, BytesIn.nil _ _, (h.below hb1).mono (fun _ hs => .inl hs), Touch.of_below hb1⟩

set_option maxRecDepth 100000 in
set_option maxHeartbeats 4000000 in
theorem recover_ok (S : Nat → Prop) (db : Nat) (s : Dk) (p : ByteArray) (D : Nat) (w : World) (h : Disk S w db s) (hp : p.size ≤ 70368744177664) (hg : Good D s) (hD : D ≤ 549755813888) (hpl : s.pend.length ≤ 549755813888) :
    Calls Try.prog 10 #[fptr db, .string p] w fun e w' => e = .returned (.int .i64 (recover p s).1) ∧ Disk (Grow S w) w' db (recover p s).2 ∧ Touch S w w' := by
  have hR : ∀ u : World, Calls Try.prog 27 #[.string p] u fun e w' => e = .returned (.bool (right p)) ∧ Below u.heap.size u w' := fun u => right_ok p u (by omega)
  have hts : (tmp p).size ≤ 9223372036854775807 := by unfold tmp; have : (⟨#[46, 116, 109, 112]⟩ : ByteArray).size = 4 := rfl; simp; omega
  by_cases hr : right p = true
  · rw [hr] at hR
    have HR := Lib.hid (hR w)
    clear hR
    have HLI : Hid (∀ w1, Below w.heap.size w w1 → Calls Try.prog 12 #[.pointer (some ⟨db, 0, none⟩)] w1 (GivesStrs w1 (listing s))) := fun w1 hb => list_ok S db s D w1 (h.below hb) hg (by omega)
    have HHAS : Hid (∀ base v w2, StrRow base w2 v (listing s) → Calls Try.prog 35 #[v, .string (tmp p)] w2 fun e w' => e = .returned (.bool (listed s (tmp p))) ∧ w' = w2) := fun base v w2 hs => by
      rw [← strIn_listing]
      exact has_ok base v _ (tmp p) w2 hs
    cases hli : listed s (tmp p) with
    | false =>
      have HE : recover p s = (0, s) := by simp [recover, hr, hli]
      rw [HE]
      rw [hli] at HHAS
      clear hli HE
      unfold fptr
      go_enter Try.func10, Try.ntmps10
      go_wp2_with (first | (go_at_call 27; refine HR.out.mono ?_; rintro e w1 ⟨rfl, hb1⟩; have hli := HLI.out w1 hb1) | (go_at_call 12; refine hli.mono ?_; rintro e w2 ⟨v, rfl, hv, hb2⟩; have hhas := HHAS.out _ v w2 hv) | (go_at_call 30; refine (temp_ok _ _ (by omega)).mono ?_; rintro e w3 ⟨rfl, rfl⟩) | (go_at_call 35; refine hhas.mono ?_; rintro e w4 ⟨rfl, rfl⟩))
      go_ret
      have hb3 := hb1.trans (hb2.mono hb1.size)
      exact ⟨rfl, (h.below hb3).mono (fun _ hs => .inl hs), Touch.of_below hb3⟩
    | true =>
      obtain ⟨⟨e1, s1⟩, hr1⟩ : ∃ r, remove (tmp p) s = r := ⟨_, rfl⟩
      have HRM : Hid (∀ w1, Below w.heap.size w w1 → Calls Try.prog 32 #[.pointer (some ⟨db, 0, none⟩), .string (tmp p)] w1 fun e w' => e = .returned (.int .i64 e1) ∧ Disk (Grow S w1) w' db s1 ∧ Touch S w1 w') := fun w1 hb => by
        obtain ⟨r, h⟩ := h
        have := remove_ok S db s r (tmp p) w1 (h.below hb) hts (by omega)
        rw [hr1] at this
        exact this
      rw [hli] at HHAS
      by_cases hz : e1 = 0
      · subst hz
        obtain ⟨⟨e2, s2⟩, hr2⟩ : ∃ r, dirsync s1 = r := ⟨_, rfl⟩
        have HE : recover p s = (e2, s2) := by simp [recover, hr, hli, hr1, hr2]
        rw [HE]
        have HDS : Hid (∀ w1 w2, Disk (Grow S w1) w2 db s1 → Calls Try.prog 36 #[.pointer (some ⟨db, 0, none⟩)] w2 fun e w' => e = .returned (.int .i64 e2) ∧ Disk (Grow (Grow S w1) w2) w' db s2 ∧ Touch (Grow S w1) w2 w') := fun w1 w2 hd => by
          obtain ⟨r, hd⟩ := hd
          have := dirsync_ok (Grow S w1) db s1 r w2 hd
          rw [hr2] at this
          exact this
        clear hli HE hr1 hr2
        unfold fptr
        go_enter Try.func10, Try.ntmps10
        go_wp2_with (first | (go_at_call 27; refine HR.out.mono ?_; rintro e w1 ⟨rfl, hb1⟩; have hli := HLI.out w1 hb1) | (go_at_call 12; refine hli.mono ?_; rintro e w2 ⟨v, rfl, hv, hb2⟩; have hhas := HHAS.out _ v w2 hv) | (go_at_call 30; refine (temp_ok _ _ (by omega)).mono ?_; rintro e w3 ⟨rfl, rfl⟩) | (go_at_call 35; refine hhas.mono ?_; rintro e w4 ⟨rfl, rfl⟩; have hrm := HRM.out w4 (hb1.trans (hb2.mono hb1.size))) | (go_at_call 32; refine hrm.mono ?_; rintro e w5 ⟨rfl, hd5, ht5⟩; have hds := HDS.out _ _ hd5) | (go_at_call 36; refine hds.mono ?_; rintro e w6 ⟨rfl, hd6, ht6⟩))
        go_ret
        have hb3 := hb1.trans (hb2.mono hb1.size)
        have hs3 := hb3.size
        exact ⟨rfl, (hd6.grow ht5.size).mono (fun k hk => by rcases hk with hk | hk; exact .inl hk; exact .inr (by omega)), (Touch.of_below (S := S) hb3).trans ((ht5.trans ht6).mono (fun k _ hk => .inl hk))⟩
      · have HE : recover p s = (e1, s1) := by simp [recover, hr, hli, hr1, hz]
        rw [HE]
        have b1 : (e1 != 0) = true := bne_iff_ne.2 hz
        clear hli HE hr1
        unfold fptr
        go_enter Try.func10, Try.ntmps10
        go_wp2_with (first | (go_at_call 27; refine HR.out.mono ?_; rintro e w1 ⟨rfl, hb1⟩; have hli := HLI.out w1 hb1) | (go_at_call 12; refine hli.mono ?_; rintro e w2 ⟨v, rfl, hv, hb2⟩; have hhas := HHAS.out _ v w2 hv) | (go_at_call 30; refine (temp_ok _ _ (by omega)).mono ?_; rintro e w3 ⟨rfl, rfl⟩) | (go_at_call 35; refine hhas.mono ?_; rintro e w4 ⟨rfl, rfl⟩; have hrm := HRM.out w4 (hb1.trans (hb2.mono hb1.size))) | (go_at_call 32; refine hrm.mono ?_; rintro e w5 ⟨rfl, hd5, ht5⟩))
        go_ret
        have hb3 := hb1.trans (hb2.mono hb1.size)
        have hs3 := hb3.size
        exact ⟨rfl, hd5.mono (fun k hk => by rcases hk with hk | hk; exact .inl hk; exact .inr (by omega)), (Touch.of_below (S := S) hb3).trans (ht5.mono (fun k _ hk => .inl hk))⟩
  · have hr' : right p = false := by simpa using hr
    have HE : recover p s = (1, s) := by simp [recover, hr']
    rw [HE]
    rw [hr'] at hR
    have HR := Lib.hid (hR w)
    clear hR HE
    unfold fptr
    go_enter Try.func10, Try.ntmps10
    go_wp2_with (go_at_call 27; refine HR.out.mono ?_; rintro e w1 ⟨rfl, hb1⟩)
    go_ret
    exact ⟨rfl, (h.below hb1).mono (fun _ hs => .inl hs), Touch.of_below hb1⟩
end Go.Proofs.Ythdncdhgnoggkaa
