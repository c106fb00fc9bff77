/-
  The contract of the iterator that a save ranges over (store.steps$1): whatever each round answers, as long as it goes on where the error is OK and stops where it is not.
  Conditions: the disk lies in blocks of S; the captured variables' blocks, and the bytes, elsewhere.
-/
import Derived.Test.YthdncdhgnoggkaaFit
import Derived.RangeFuncNested
import Derived.RangeFuncBound
import Derived.RangeFuncCalls
import Derived.RangeFuncLeaves
import Derived.WalkKit
import Derived.OwnWalkIn
import Derived.TacticsInMore
set_option linter.unusedSimpArgs false
set_option linter.unusedVariables false
namespace Go.Proofs.Ythdncdhgnoggkaa
open Go.RowKit

theorem Disk.grow {S : Nat → Prop} {w w1 w2 : World} {db : Nat} {s : Dk} (h : Disk (Grow (Grow S w) w1) w2 db s) (hs : w.heap.size ≤ w1.heap.size) : Disk (Grow S w) w2 db s :=
  h.mono (fun k hk => by rcases hk with hk | hk; exact hk; exact .inr (by omega))

set_option maxRecDepth 100000 in
set_option maxHeartbeats 4000000 in
theorem iter_ok (m : Nat) (S : Nat → Prop) (db : Nat) (s : Dk) (p : ByteArray) (data : List Int) (v : Value) (l : Nat) (w : World) (bd bt bv bp : Nat) (N M : Nat) (R : Int → Dk → World → Prop)
    (h : Disk S w db s) (hbd : w.heap[bd]? = some (.cells #[fptr db] 25 (0, 0))) (hbt : w.heap[bt]? = some (.cells #[.string (tmp p)] 9 (0, 0))) (hbv : w.heap[bv]? = some (.cells #[v] 22 (0, 0))) (hbp : w.heap[bp]? = some (.cells #[.string p] 9 (0, 0)))
    (hSd : ¬ S bd) (hSt : ¬ S bt) (hSv : ¬ S bv) (hSp : ¬ S bp) (hsrc : Src w v data) (hout : Out S v) (hp : p.size ≤ 70368744177664) (hfit : Fit N M s) (hN : N + 3 ≤ 1099511627776) (hM : M + data.length ≤ 70368744177664)
    (hgo : ∀ (W1 : World) (b : Bool), Touch S w W1 → YieldAt Fence.wide m Try.prog l #[.int .i64 0, .bool b] W1 fun e W' => e = .returned (.bool true) ∧ W1 = W')
    (hno : ∀ (W1 : World) (x : Int) (b : Bool) (s' : Dk), x ≠ 0 → Touch S w W1 → Disk (Grow S w) W1 db s' → s'.pend.length ≤ N + 3 → YieldAt Fence.wide m Try.prog l #[.int .i64 x, .bool b] W1 fun e W' => e = .returned (.bool false) ∧ R x (if b then s' else (remove (tmp p) s').2) W') :
    CallsIn Fence.wide (m + 1) Try.prog 57 #[.func (.yield l) #[] #[], .pointer (some ⟨bd, 0, none⟩), .pointer (some ⟨bt, 0, none⟩), .pointer (some ⟨bv, 0, none⟩), .pointer (some ⟨bp, 0, none⟩)] w fun e W' =>
      (∃ u, e = .returned u) ∧ (((saveOps p data s).1 = 0 ∧ Touch S w W' ∧ Disk (Grow S w) W' db (saveOps p data s).2) ∨ ((saveOps p data s).1 ≠ 0 ∧ R (saveOps p data s).1 (saveOps p data s).2 W')) := by
  obtain ⟨r, h⟩ := h
  have hts : (tmp p).size ≤ 9223372036854775807 := by unfold tmp; have : (⟨#[46, 116, 109, 112]⟩ : ByteArray).size = 4 := rfl; simp; omega
  obtain ⟨A, c, ev, hvl⟩ := hsrc.len
  have box : ∀ (b : Nat) (u : Value) (t : TypeId) (W : World), w.heap[b]? = some (.cells #[u] t (0, 0)) → ¬ S b → Touch S w W → W.cell? ⟨b, 0, none⟩ = some u ∧ W.frozen? ⟨b, 0, none⟩ = false := by
    intro b u t W hb hS ht
    have := ht.heap hb hS
    exact ⟨by simp [World.cell?, this], by simp [World.frozen?, this]⟩
  have BD := Lib.hid (fun W ht => box bd _ _ W hbd hSd ht)
  have BT := Lib.hid (fun W ht => box bt _ _ W hbt hSt ht)
  have BV := Lib.hid (fun W ht => box bv _ _ W hbv hSv ht)
  have BP := Lib.hid (fun W ht => box bp _ _ W hbp hSp ht)
  unfold fptr at BD
  have HGO := Lib.hid hgo
  have HNO := Lib.hid hno
  have HSRC := Lib.hid hsrc
  have HOUT := Lib.hid hout
  clear hbd hbt hbv hbp hgo hno box hsrc hout
  obtain ⟨x0, y0⟩ := BD.out w (Touch.refl _ _)
  obtain ⟨x1, y1⟩ := BT.out w (Touch.refl _ _)
  obtain ⟨x2, y2⟩ := BV.out w (Touch.refl _ _)
  obtain ⟨x3, y3⟩ := BP.out w (Touch.refl _ _)
  subst ev
  obtain ⟨⟨e1, s1⟩, hr1⟩ : ∃ r1, create (tmp p) s = r1 := ⟨_, rfl⟩
  have f1 := fit_create hfit (tmp p)
  rw [hr1] at f1
  obtain ⟨⟨e2, s2⟩, hr2⟩ : ∃ r2, write (tmp p) data s1 = r2 := ⟨_, rfl⟩
  have f2 := fit_write f1 (tmp p) data
  rw [hr2] at f2
  obtain ⟨⟨e3, s3⟩, hr3⟩ : ∃ r3, fsync (tmp p) s2 = r3 := ⟨_, rfl⟩
  have f3 := fit_fsync f2 (tmp p)
  rw [hr3] at f3
  obtain ⟨⟨e4, s4⟩, hr4⟩ : ∃ r4, rename (tmp p) p s3 = r4 := ⟨_, rfl⟩
  have f4 := fit_rename f3 (tmp p) p
  rw [hr4] at f4
  obtain ⟨⟨e5, s5⟩, hr5⟩ : ∃ r5, dirsync s4 = r5 := ⟨_, rfl⟩
  have f5 := fit_dirsync f4
  rw [hr5] at f5
  have HR1 := Lib.hid hr1
  have HR2 := Lib.hid hr2
  have HR3 := Lib.hid hr3
  have HR4 := Lib.hid hr4
  have HR5 := Lib.hid hr5
  dsimp only at f1 f2 f3 f4 f5
  by_cases z1 : e1 = 0
  · subst z1
    by_cases z2 : e2 = 0
    · subst z2
      by_cases z3 : e3 = 0
      · subst z3
        by_cases z4 : e4 = 0
        · subst z4
          by_cases z5 : e5 = 0
          · subst z5
            have HE : saveOps p data s = (0, s5) := by simp [saveOps, hr1, hr2, hr3, hr4, hr5]
            rw [HE]
            clear HE hr1 hr2 hr3 hr4 hr5
            refine callsIn_of_wp Try.func57 rfl trivial ?_ rfl
            simp only [Try.ntmps57, List.size_toArray, List.length_cons, List.length_nil, Nat.reduceAdd, Nat.reduceSub, Array.replicate_succ, Array.replicate_zero, List.push_toArray, List.append_toArray, List.nil_append, List.cons_append]
            have c1 := create_ok S db s r (tmp p) w h hts (by have := hfit.nf; omega) (by have := hfit.np; omega)
            rw [HR1.out] at c1
            unfold fptr at c1
            have C1 := Lib.hid c1
            clear c1
            gi_wp2_with (refine ⟨trivial, ?_⟩; gi_at_call 22; refine (callsIn_wide.2 C1.out).mono ?_; rintro e w1 ⟨rfl, hd1, ht1⟩; obtain ⟨fa1, ta1, aa1, ba1, hy1, hR1⟩ := HGO.out w1 false ht1)
            refine hR1.mono ?_
            rintro e W2 ⟨rfl, hW⟩
            subst hW
            obtain ⟨r1, hq1⟩ := hd1
            clear hy1 hR1
            obtain ⟨x0, y0⟩ := BD.out w1 ht1
            obtain ⟨x1, y1⟩ := BT.out w1 ht1
            obtain ⟨x2, y2⟩ := BV.out w1 ht1
            obtain ⟨x3, y3⟩ := BP.out w1 ht1
            have c2 := write_ok (Grow S w) db s1 r1 (tmp p) (.slice A data.length c) data w1 hq1 hts (HSRC.out.touch HOUT.out ht1) f1.room (fun f hf => by have := (f1.nb f hf).1; omega) (by omega)
            rw [HR2.out] at c2
            unfold fptr at c2
            have C2 := Lib.hid c2
            clear c2
            gi_wp2_with (refine ⟨trivial, ?_⟩; gi_at_call 58; refine (callsIn_wide.2 C2.out).mono ?_; rintro e w2 ⟨rfl, hx2, hu2⟩; have ht2 := ht1.trans hu2; have hd2 : Disk (Grow S w) w2 db s2 := Disk.grow hx2 ht1.size; obtain ⟨fa2, ta2, aa2, ba2, hy2, hR2⟩ := HGO.out w2 false ht2)
            refine hR2.mono ?_
            rintro e W2 ⟨rfl, hW⟩
            subst hW
            obtain ⟨r2, hq2⟩ := hd2
            clear hy2 hR2
            obtain ⟨x0, y0⟩ := BD.out w2 ht2
            obtain ⟨x1, y1⟩ := BT.out w2 ht2
            obtain ⟨x2, y2⟩ := BV.out w2 ht2
            obtain ⟨x3, y3⟩ := BP.out w2 ht2
            have c3 := fsync_ok (Grow S w) db s2 r2 (tmp p) w2 hq2 hts
            rw [HR3.out] at c3
            unfold fptr at c3
            have C3 := Lib.hid c3
            clear c3
            gi_wp2_with (refine ⟨trivial, ?_⟩; gi_at_call 59; refine (callsIn_wide.2 C3.out).mono ?_; rintro e w3 ⟨rfl, hx3, hu3⟩; have ht3 := ht2.trans hu3; have hd3 : Disk (Grow S w) w3 db s3 := Disk.grow hx3 ht2.size; obtain ⟨fa3, ta3, aa3, ba3, hy3, hR3⟩ := HGO.out w3 false ht3)
            refine hR3.mono ?_
            rintro e W2 ⟨rfl, hW⟩
            subst hW
            obtain ⟨r3, hq3⟩ := hd3
            clear hy3 hR3
            obtain ⟨x0, y0⟩ := BD.out w3 ht3
            obtain ⟨x1, y1⟩ := BT.out w3 ht3
            obtain ⟨x2, y2⟩ := BV.out w3 ht3
            obtain ⟨x3, y3⟩ := BP.out w3 ht3
            have c4 := rename_ok (Grow S w) db s3 r3 (tmp p) p w3 hq3 hts (by omega) (by have := f3.np; omega)
            rw [HR4.out] at c4
            unfold fptr at c4
            have C4 := Lib.hid c4
            clear c4
            gi_wp2_with (refine ⟨trivial, ?_⟩; gi_at_call 60; refine (callsIn_wide.2 C4.out).mono ?_; rintro e w4 ⟨rfl, hx4, hu4⟩; have ht4 := ht3.trans hu4; have hd4 : Disk (Grow S w) w4 db s4 := Disk.grow hx4 ht3.size; obtain ⟨fa4, ta4, aa4, ba4, hy4, hR4⟩ := HGO.out w4 false ht4)
            refine hR4.mono ?_
            rintro e W2 ⟨rfl, hW⟩
            subst hW
            obtain ⟨r4, hq4⟩ := hd4
            clear hy4 hR4
            obtain ⟨x0, y0⟩ := BD.out w4 ht4
            obtain ⟨x1, y1⟩ := BT.out w4 ht4
            obtain ⟨x2, y2⟩ := BV.out w4 ht4
            obtain ⟨x3, y3⟩ := BP.out w4 ht4
            have c5 := dirsync_ok (Grow S w) db s4 r4 w4 hq4
            rw [HR5.out] at c5
            unfold fptr at c5
            have C5 := Lib.hid c5
            clear c5
            gi_wp2_with (refine ⟨trivial, ?_⟩; gi_at_call 36; refine (callsIn_wide.2 C5.out).mono ?_; rintro e w5 ⟨rfl, hx5, hu5⟩; have ht5 := ht4.trans hu5; have hd5 : Disk (Grow S w) w5 db s5 := Disk.grow hx5 ht4.size; obtain ⟨fa5, ta5, aa5, ba5, hy5, hR5⟩ := HGO.out w5 true ht5)
            refine hR5.mono ?_
            rintro e W2 ⟨rfl, hW⟩
            subst hW
            gi_wp2
            go_end0
            exact ⟨⟨_, rfl⟩, .inl ⟨trivial, ht5, hd5⟩⟩
          · have HE : saveOps p data s = (e5, s5) := by simp [saveOps, hr1, hr2, hr3, hr4, hr5]
            rw [HE]
            clear HE hr1 hr2 hr3 hr4 hr5
            refine callsIn_of_wp Try.func57 rfl trivial ?_ rfl
            simp only [Try.ntmps57, List.size_toArray, List.length_cons, List.length_nil, Nat.reduceAdd, Nat.reduceSub, Array.replicate_succ, Array.replicate_zero, List.push_toArray, List.append_toArray, List.nil_append, List.cons_append]
            have c1 := create_ok S db s r (tmp p) w h hts (by have := hfit.nf; omega) (by have := hfit.np; omega)
            rw [HR1.out] at c1
            unfold fptr at c1
            have C1 := Lib.hid c1
            clear c1
            gi_wp2_with (refine ⟨trivial, ?_⟩; gi_at_call 22; refine (callsIn_wide.2 C1.out).mono ?_; rintro e w1 ⟨rfl, hd1, ht1⟩; obtain ⟨fa1, ta1, aa1, ba1, hy1, hR1⟩ := HGO.out w1 false ht1)
            refine hR1.mono ?_
            rintro e W2 ⟨rfl, hW⟩
            subst hW
            obtain ⟨r1, hq1⟩ := hd1
            clear hy1 hR1
            obtain ⟨x0, y0⟩ := BD.out w1 ht1
            obtain ⟨x1, y1⟩ := BT.out w1 ht1
            obtain ⟨x2, y2⟩ := BV.out w1 ht1
            obtain ⟨x3, y3⟩ := BP.out w1 ht1
            have c2 := write_ok (Grow S w) db s1 r1 (tmp p) (.slice A data.length c) data w1 hq1 hts (HSRC.out.touch HOUT.out ht1) f1.room (fun f hf => by have := (f1.nb f hf).1; omega) (by omega)
            rw [HR2.out] at c2
            unfold fptr at c2
            have C2 := Lib.hid c2
            clear c2
            gi_wp2_with (refine ⟨trivial, ?_⟩; gi_at_call 58; refine (callsIn_wide.2 C2.out).mono ?_; rintro e w2 ⟨rfl, hx2, hu2⟩; have ht2 := ht1.trans hu2; have hd2 : Disk (Grow S w) w2 db s2 := Disk.grow hx2 ht1.size; obtain ⟨fa2, ta2, aa2, ba2, hy2, hR2⟩ := HGO.out w2 false ht2)
            refine hR2.mono ?_
            rintro e W2 ⟨rfl, hW⟩
            subst hW
            obtain ⟨r2, hq2⟩ := hd2
            clear hy2 hR2
            obtain ⟨x0, y0⟩ := BD.out w2 ht2
            obtain ⟨x1, y1⟩ := BT.out w2 ht2
            obtain ⟨x2, y2⟩ := BV.out w2 ht2
            obtain ⟨x3, y3⟩ := BP.out w2 ht2
            have c3 := fsync_ok (Grow S w) db s2 r2 (tmp p) w2 hq2 hts
            rw [HR3.out] at c3
            unfold fptr at c3
            have C3 := Lib.hid c3
            clear c3
            gi_wp2_with (refine ⟨trivial, ?_⟩; gi_at_call 59; refine (callsIn_wide.2 C3.out).mono ?_; rintro e w3 ⟨rfl, hx3, hu3⟩; have ht3 := ht2.trans hu3; have hd3 : Disk (Grow S w) w3 db s3 := Disk.grow hx3 ht2.size; obtain ⟨fa3, ta3, aa3, ba3, hy3, hR3⟩ := HGO.out w3 false ht3)
            refine hR3.mono ?_
            rintro e W2 ⟨rfl, hW⟩
            subst hW
            obtain ⟨r3, hq3⟩ := hd3
            clear hy3 hR3
            obtain ⟨x0, y0⟩ := BD.out w3 ht3
            obtain ⟨x1, y1⟩ := BT.out w3 ht3
            obtain ⟨x2, y2⟩ := BV.out w3 ht3
            obtain ⟨x3, y3⟩ := BP.out w3 ht3
            have c4 := rename_ok (Grow S w) db s3 r3 (tmp p) p w3 hq3 hts (by omega) (by have := f3.np; omega)
            rw [HR4.out] at c4
            unfold fptr at c4
            have C4 := Lib.hid c4
            clear c4
            gi_wp2_with (refine ⟨trivial, ?_⟩; gi_at_call 60; refine (callsIn_wide.2 C4.out).mono ?_; rintro e w4 ⟨rfl, hx4, hu4⟩; have ht4 := ht3.trans hu4; have hd4 : Disk (Grow S w) w4 db s4 := Disk.grow hx4 ht3.size; obtain ⟨fa4, ta4, aa4, ba4, hy4, hR4⟩ := HGO.out w4 false ht4)
            refine hR4.mono ?_
            rintro e W2 ⟨rfl, hW⟩
            subst hW
            obtain ⟨r4, hq4⟩ := hd4
            clear hy4 hR4
            obtain ⟨x0, y0⟩ := BD.out w4 ht4
            obtain ⟨x1, y1⟩ := BT.out w4 ht4
            obtain ⟨x2, y2⟩ := BV.out w4 ht4
            obtain ⟨x3, y3⟩ := BP.out w4 ht4
            have c5 := dirsync_ok (Grow S w) db s4 r4 w4 hq4
            rw [HR5.out] at c5
            unfold fptr at c5
            have C5 := Lib.hid c5
            clear c5
            gi_wp2_with (refine ⟨trivial, ?_⟩; gi_at_call 36; refine (callsIn_wide.2 C5.out).mono ?_; rintro e w5 ⟨rfl, hx5, hu5⟩; have ht5 := ht4.trans hu5; have hd5 : Disk (Grow S w) w5 db s5 := Disk.grow hx5 ht4.size; obtain ⟨fa5, ta5, aa5, ba5, hy5, hR5⟩ := HNO.out w5 e5 true s5 z5 ht5 hd5 (by have := f5.np; omega))
            refine hR5.mono ?_
            rintro e W2 ⟨rfl, hx⟩
            gi_wp2
            go_end0
            exact ⟨⟨_, rfl⟩, .inr ⟨z5, hx⟩⟩
        · have HE : saveOps p data s = (e4, (remove (tmp p) s4).2) := by simp [saveOps, hr1, hr2, hr3, hr4, z4]
          rw [HE]
          clear HE hr1 hr2 hr3 hr4 hr5
          refine callsIn_of_wp Try.func57 rfl trivial ?_ rfl
          simp only [Try.ntmps57, List.size_toArray, List.length_cons, List.length_nil, Nat.reduceAdd, Nat.reduceSub, Array.replicate_succ, Array.replicate_zero, List.push_toArray, List.append_toArray, List.nil_append, List.cons_append]
          have c1 := create_ok S db s r (tmp p) w h hts (by have := hfit.nf; omega) (by have := hfit.np; omega)
          rw [HR1.out] at c1
          unfold fptr at c1
          have C1 := Lib.hid c1
          clear c1
          gi_wp2_with (refine ⟨trivial, ?_⟩; gi_at_call 22; refine (callsIn_wide.2 C1.out).mono ?_; rintro e w1 ⟨rfl, hd1, ht1⟩; obtain ⟨fa1, ta1, aa1, ba1, hy1, hR1⟩ := HGO.out w1 false ht1)
          refine hR1.mono ?_
          rintro e W2 ⟨rfl, hW⟩
          subst hW
          obtain ⟨r1, hq1⟩ := hd1
          clear hy1 hR1
          obtain ⟨x0, y0⟩ := BD.out w1 ht1
          obtain ⟨x1, y1⟩ := BT.out w1 ht1
          obtain ⟨x2, y2⟩ := BV.out w1 ht1
          obtain ⟨x3, y3⟩ := BP.out w1 ht1
          have c2 := write_ok (Grow S w) db s1 r1 (tmp p) (.slice A data.length c) data w1 hq1 hts (HSRC.out.touch HOUT.out ht1) f1.room (fun f hf => by have := (f1.nb f hf).1; omega) (by omega)
          rw [HR2.out] at c2
          unfold fptr at c2
          have C2 := Lib.hid c2
          clear c2
          gi_wp2_with (refine ⟨trivial, ?_⟩; gi_at_call 58; refine (callsIn_wide.2 C2.out).mono ?_; rintro e w2 ⟨rfl, hx2, hu2⟩; have ht2 := ht1.trans hu2; have hd2 : Disk (Grow S w) w2 db s2 := Disk.grow hx2 ht1.size; obtain ⟨fa2, ta2, aa2, ba2, hy2, hR2⟩ := HGO.out w2 false ht2)
          refine hR2.mono ?_
          rintro e W2 ⟨rfl, hW⟩
          subst hW
          obtain ⟨r2, hq2⟩ := hd2
          clear hy2 hR2
          obtain ⟨x0, y0⟩ := BD.out w2 ht2
          obtain ⟨x1, y1⟩ := BT.out w2 ht2
          obtain ⟨x2, y2⟩ := BV.out w2 ht2
          obtain ⟨x3, y3⟩ := BP.out w2 ht2
          have c3 := fsync_ok (Grow S w) db s2 r2 (tmp p) w2 hq2 hts
          rw [HR3.out] at c3
          unfold fptr at c3
          have C3 := Lib.hid c3
          clear c3
          gi_wp2_with (refine ⟨trivial, ?_⟩; gi_at_call 59; refine (callsIn_wide.2 C3.out).mono ?_; rintro e w3 ⟨rfl, hx3, hu3⟩; have ht3 := ht2.trans hu3; have hd3 : Disk (Grow S w) w3 db s3 := Disk.grow hx3 ht2.size; obtain ⟨fa3, ta3, aa3, ba3, hy3, hR3⟩ := HGO.out w3 false ht3)
          refine hR3.mono ?_
          rintro e W2 ⟨rfl, hW⟩
          subst hW
          obtain ⟨r3, hq3⟩ := hd3
          clear hy3 hR3
          obtain ⟨x0, y0⟩ := BD.out w3 ht3
          obtain ⟨x1, y1⟩ := BT.out w3 ht3
          obtain ⟨x2, y2⟩ := BV.out w3 ht3
          obtain ⟨x3, y3⟩ := BP.out w3 ht3
          have c4 := rename_ok (Grow S w) db s3 r3 (tmp p) p w3 hq3 hts (by omega) (by have := f3.np; omega)
          rw [HR4.out] at c4
          unfold fptr at c4
          have C4 := Lib.hid c4
          clear c4
          gi_wp2_with (refine ⟨trivial, ?_⟩; gi_at_call 60; refine (callsIn_wide.2 C4.out).mono ?_; rintro e w4 ⟨rfl, hx4, hu4⟩; have ht4 := ht3.trans hu4; have hd4 : Disk (Grow S w) w4 db s4 := Disk.grow hx4 ht3.size; obtain ⟨fa4, ta4, aa4, ba4, hy4, hR4⟩ := HNO.out w4 e4 false s4 z4 ht4 hd4 (by have := f4.np; omega))
          refine hR4.mono ?_
          rintro e W2 ⟨rfl, hx⟩
          gi_wp2
          repeat (first | (refine ⟨trivial, ?_⟩; gi_wp2) | (refine ⟨fun _ h => (by cases h), ?_⟩; gi_wp2))
          go_end0
          exact ⟨⟨_, rfl⟩, .inr ⟨z4, hx⟩⟩
      · have HE : saveOps p data s = (e3, (remove (tmp p) s3).2) := by simp [saveOps, hr1, hr2, hr3, z3]
        rw [HE]
        clear HE hr1 hr2 hr3 hr4 hr5
        refine callsIn_of_wp Try.func57 rfl trivial ?_ rfl
        simp only [Try.ntmps57, List.size_toArray, List.length_cons, List.length_nil, Nat.reduceAdd, Nat.reduceSub, Array.replicate_succ, Array.replicate_zero, List.push_toArray, List.append_toArray, List.nil_append, List.cons_append]
        have c1 := create_ok S db s r (tmp p) w h hts (by have := hfit.nf; omega) (by have := hfit.np; omega)
        rw [HR1.out] at c1
        unfold fptr at c1
        have C1 := Lib.hid c1
        clear c1
        gi_wp2_with (refine ⟨trivial, ?_⟩; gi_at_call 22; refine (callsIn_wide.2 C1.out).mono ?_; rintro e w1 ⟨rfl, hd1, ht1⟩; obtain ⟨fa1, ta1, aa1, ba1, hy1, hR1⟩ := HGO.out w1 false ht1)
        refine hR1.mono ?_
        rintro e W2 ⟨rfl, hW⟩
        subst hW
        obtain ⟨r1, hq1⟩ := hd1
        clear hy1 hR1
        obtain ⟨x0, y0⟩ := BD.out w1 ht1
        obtain ⟨x1, y1⟩ := BT.out w1 ht1
        obtain ⟨x2, y2⟩ := BV.out w1 ht1
        obtain ⟨x3, y3⟩ := BP.out w1 ht1
        have c2 := write_ok (Grow S w) db s1 r1 (tmp p) (.slice A data.length c) data w1 hq1 hts (HSRC.out.touch HOUT.out ht1) f1.room (fun f hf => by have := (f1.nb f hf).1; omega) (by omega)
        rw [HR2.out] at c2
        unfold fptr at c2
        have C2 := Lib.hid c2
        clear c2
        gi_wp2_with (refine ⟨trivial, ?_⟩; gi_at_call 58; refine (callsIn_wide.2 C2.out).mono ?_; rintro e w2 ⟨rfl, hx2, hu2⟩; have ht2 := ht1.trans hu2; have hd2 : Disk (Grow S w) w2 db s2 := Disk.grow hx2 ht1.size; obtain ⟨fa2, ta2, aa2, ba2, hy2, hR2⟩ := HGO.out w2 false ht2)
        refine hR2.mono ?_
        rintro e W2 ⟨rfl, hW⟩
        subst hW
        obtain ⟨r2, hq2⟩ := hd2
        clear hy2 hR2
        obtain ⟨x0, y0⟩ := BD.out w2 ht2
        obtain ⟨x1, y1⟩ := BT.out w2 ht2
        obtain ⟨x2, y2⟩ := BV.out w2 ht2
        obtain ⟨x3, y3⟩ := BP.out w2 ht2
        have c3 := fsync_ok (Grow S w) db s2 r2 (tmp p) w2 hq2 hts
        rw [HR3.out] at c3
        unfold fptr at c3
        have C3 := Lib.hid c3
        clear c3
        gi_wp2_with (refine ⟨trivial, ?_⟩; gi_at_call 59; refine (callsIn_wide.2 C3.out).mono ?_; rintro e w3 ⟨rfl, hx3, hu3⟩; have ht3 := ht2.trans hu3; have hd3 : Disk (Grow S w) w3 db s3 := Disk.grow hx3 ht2.size; obtain ⟨fa3, ta3, aa3, ba3, hy3, hR3⟩ := HNO.out w3 e3 false s3 z3 ht3 hd3 (by have := f3.np; omega))
        refine hR3.mono ?_
        rintro e W2 ⟨rfl, hx⟩
        gi_wp2
        repeat (first | (refine ⟨trivial, ?_⟩; gi_wp2) | (refine ⟨fun _ h => (by cases h), ?_⟩; gi_wp2))
        go_end0
        exact ⟨⟨_, rfl⟩, .inr ⟨z3, hx⟩⟩
    · have HE : saveOps p data s = (e2, (remove (tmp p) s2).2) := by simp [saveOps, hr1, hr2, z2]
      rw [HE]
      clear HE hr1 hr2 hr3 hr4 hr5
      refine callsIn_of_wp Try.func57 rfl trivial ?_ rfl
      simp only [Try.ntmps57, List.size_toArray, List.length_cons, List.length_nil, Nat.reduceAdd, Nat.reduceSub, Array.replicate_succ, Array.replicate_zero, List.push_toArray, List.append_toArray, List.nil_append, List.cons_append]
      have c1 := create_ok S db s r (tmp p) w h hts (by have := hfit.nf; omega) (by have := hfit.np; omega)
      rw [HR1.out] at c1
      unfold fptr at c1
      have C1 := Lib.hid c1
      clear c1
      gi_wp2_with (refine ⟨trivial, ?_⟩; gi_at_call 22; refine (callsIn_wide.2 C1.out).mono ?_; rintro e w1 ⟨rfl, hd1, ht1⟩; obtain ⟨fa1, ta1, aa1, ba1, hy1, hR1⟩ := HGO.out w1 false ht1)
      refine hR1.mono ?_
      rintro e W2 ⟨rfl, hW⟩
      subst hW
      obtain ⟨r1, hq1⟩ := hd1
      clear hy1 hR1
      obtain ⟨x0, y0⟩ := BD.out w1 ht1
      obtain ⟨x1, y1⟩ := BT.out w1 ht1
      obtain ⟨x2, y2⟩ := BV.out w1 ht1
      obtain ⟨x3, y3⟩ := BP.out w1 ht1
      have c2 := write_ok (Grow S w) db s1 r1 (tmp p) (.slice A data.length c) data w1 hq1 hts (HSRC.out.touch HOUT.out ht1) f1.room (fun f hf => by have := (f1.nb f hf).1; omega) (by omega)
      rw [HR2.out] at c2
      unfold fptr at c2
      have C2 := Lib.hid c2
      clear c2
      gi_wp2_with (refine ⟨trivial, ?_⟩; gi_at_call 58; refine (callsIn_wide.2 C2.out).mono ?_; rintro e w2 ⟨rfl, hx2, hu2⟩; have ht2 := ht1.trans hu2; have hd2 : Disk (Grow S w) w2 db s2 := Disk.grow hx2 ht1.size; obtain ⟨fa2, ta2, aa2, ba2, hy2, hR2⟩ := HNO.out w2 e2 false s2 z2 ht2 hd2 (by have := f2.np; omega))
      refine hR2.mono ?_
      rintro e W2 ⟨rfl, hx⟩
      gi_wp2
      repeat (first | (refine ⟨trivial, ?_⟩; gi_wp2) | (refine ⟨fun _ h => (by cases h), ?_⟩; gi_wp2))
      go_end0
      exact ⟨⟨_, rfl⟩, .inr ⟨z2, hx⟩⟩
  · have HE : saveOps p data s = (e1, (remove (tmp p) s1).2) := by simp [saveOps, hr1, z1]
    rw [HE]
    clear HE hr1 hr2 hr3 hr4 hr5
    refine callsIn_of_wp Try.func57 rfl trivial ?_ rfl
    simp only [Try.ntmps57, List.size_toArray, List.length_cons, List.length_nil, Nat.reduceAdd, Nat.reduceSub, Array.replicate_succ, Array.replicate_zero, List.push_toArray, List.append_toArray, List.nil_append, List.cons_append]
    have c1 := create_ok S db s r (tmp p) w h hts (by have := hfit.nf; omega) (by have := hfit.np; omega)
    rw [HR1.out] at c1
    unfold fptr at c1
    have C1 := Lib.hid c1
    clear c1
    gi_wp2_with (refine ⟨trivial, ?_⟩; gi_at_call 22; refine (callsIn_wide.2 C1.out).mono ?_; rintro e w1 ⟨rfl, hd1, ht1⟩; obtain ⟨fa1, ta1, aa1, ba1, hy1, hR1⟩ := HNO.out w1 e1 false s1 z1 ht1 hd1 (by have := f1.np; omega))
    refine hR1.mono ?_
    rintro e W2 ⟨rfl, hx⟩
    gi_wp2
    repeat (first | (refine ⟨trivial, ?_⟩; gi_wp2) | (refine ⟨fun _ h => (by cases h), ?_⟩; gi_wp2))
    go_end0
    exact ⟨⟨_, rfl⟩, .inr ⟨z1, hx⟩⟩
end Go.Proofs.Ythdncdhgnoggkaa
