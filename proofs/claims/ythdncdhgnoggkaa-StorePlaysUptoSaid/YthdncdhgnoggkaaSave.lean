/-
  The contract of store.Save.
  Conditions: the disk lies in blocks of S; the bytes elsewhere; bounds on how great all is.
-/
import Derived.Test.YthdncdhgnoggkaaIter
import Derived.Test.YthdncdhgnoggkaaRange
import Derived.WalkMore
import Derived.Shelf.Abstract
import Derived.Stop.RegionWithIn
set_option linter.unusedSimpArgs false
set_option linter.unusedVariables false
namespace Go.Proofs.Ythdncdhgnoggkaa
open Go.RowKit Go.Shelf

theorem two_boxes {w w1 : World} {u1 u2 : Value} (h : Below ((w.alloc (.cells #[u1] 25)).alloc (.cells #[u2] 9)).heap.size ((w.alloc (.cells #[u1] 25)).alloc (.cells #[u2] 9)) w1) :
    (w1.cell? ⟨w.heap.size, 0, none⟩ = some u1 ∧ w1.frozen? ⟨w.heap.size, 0, none⟩ = false) ∧ (w1.cell? ⟨w.heap.size + 1, 0, none⟩ = some u2 ∧ w1.frozen? ⟨w.heap.size + 1, 0, none⟩ = false) := by
  have g1 : w1.heap[w.heap.size]? = some (.cells #[u1] 25 (0, 0)) := below_heap h (alloc_heap (World.alloc_heap_new w _) _)
  have g2 : w1.heap[w.heap.size + 1]? = some (.cells #[u2] 9 (0, 0)) := below_heap h (by have := World.alloc_heap_new (w.alloc (.cells #[u1] 25)) (.cells #[u2] 9); simpa using this)
  exact ⟨⟨by simp [World.cell?, g1], by simp [World.frozen?, g1]⟩, ⟨by simp [World.cell?, g2], by simp [World.frozen?, g2]⟩⟩

theorem five_boxes (w : World) (u1 u2 u3 u4 : Value) : ∀ w', w' = (((w.alloc (.cells #[u1] 25)).alloc (.cells #[u2] 9)).alloc (.cells #[u3] 22)).alloc (.cells #[u4] 9) → w'.heap[w.heap.size]? = some (.cells #[u1] 25 (0, 0)) ∧ w'.heap[w.heap.size + 1]? = some (.cells #[u2] 9 (0, 0)) ∧ w'.heap[w.heap.size + 2]? = some (.cells #[u3] 22 (0, 0)) ∧ w'.heap[w.heap.size + 3]? = some (.cells #[u4] 9 (0, 0)) ∧ w'.heap.size = w.heap.size + 4 ∧ Below w.heap.size w w' := by
  rintro w' rfl
  have a1 := World.alloc_heap_new w (.cells #[u1] 25)
  have a2 := World.alloc_heap_new (w.alloc (.cells #[u1] 25)) (.cells #[u2] 9)
  have a3 := World.alloc_heap_new ((w.alloc (.cells #[u1] 25)).alloc (.cells #[u2] 9)) (.cells #[u3] 22)
  have a4 := World.alloc_heap_new (((w.alloc (.cells #[u1] 25)).alloc (.cells #[u2] 9)).alloc (.cells #[u3] 22)) (.cells #[u4] 9)
  simp only [World.size_alloc] at a2 a3 a4
  exact ⟨alloc_heap (alloc_heap (alloc_heap a1 _) _) _, alloc_heap (alloc_heap a2 _) _, alloc_heap a3 _, a4, by simp,
    ((((Below.refl _ w).alloc (Nat.le_refl _) _).alloc (by simp) _).alloc (by simp; omega) _).alloc (by simp; omega) _⟩

set_option maxRecDepth 100000 in
set_option maxHeartbeats 4000000 in
theorem save_ok (S : Nat → Prop) (db : Nat) (s : Dk) (p : ByteArray) (data : List Int) (v : Value) (w : World) (N M : Nat)
    (h : Disk S w db s) (hsrc : Src w v data) (hout : Out S v) (hp : p.size ≤ 70368744177664) (hfit : Fit N M s) (hN : N + 3 ≤ 1099511627776) (hM : M + data.length ≤ 70368744177664) :
    Calls Try.prog 8 #[fptr db, .string p, v] w fun e w' => e = .returned (.int .i64 (save p data s).1) ∧ Disk (Grow S w) w' db (save p data s).2 ∧ Touch S w w' := by
  obtain ⟨A, c, ev, hvl⟩ := hsrc.len
  subst ev
  have hR : ∀ u : World, Calls Try.prog 27 #[.string p] u fun e w' => e = .returned (.bool (right p)) ∧ Below u.heap.size u w' := fun u => right_ok p u (by omega)
  by_cases hr : right p = true
  · rw [hr] at hR
    have HR := Lib.hid hR
    clear hR
    by_cases hl : (1048576 : Int) < data.length
    · have HE : save p data s = (3, s) := by simp [save_eq, hr, hl]
      rw [HE]
      clear HE
      unfold fptr
      refine (callsIn_wide (n := 3)).1 (callsIn_of_wp_marks Try.func8 rfl trivial (wpIn_wide.2 ?_) rfl)
      simp only [Try.ntmps8, List.size_toArray, List.length_cons, List.length_nil, Nat.reduceAdd, Nat.reduceSub, Array.replicate_succ, Array.replicate_zero, List.push_toArray, List.append_toArray, List.nil_append, List.cons_append]
      go_wp2_with fail
      go_step3
      go_wp2_with (go_at_call 27; refine (HR.out _).mono ?_; rintro e w1 ⟨rfl, hb1⟩)
      rw [Exit.noGoto_ret]
      have hB : Below w.heap.size w w1 := (((Below.refl _ w).alloc (Nat.le_refl _) _).alloc (by simp) _).trans (hb1.mono (by simp; omega))
      exact ⟨_, results_tmp rfl _ _ _, rfl, (h.below hB).mono (fun _ hs => .inl hs), Touch.of_below hB⟩
    · have HE : save p data s = saveOps p data s := by simp [save_eq, hr, hl]
      rw [HE]
      clear HE
      unfold fptr
      refine (callsIn_wide (n := 3)).1 (callsIn_of_wp_marks Try.func8 rfl trivial (wpIn_wide.2 ?_) rfl)
      simp only [Try.ntmps8, List.size_toArray, List.length_cons, List.length_nil, Nat.reduceAdd, Nat.reduceSub, Array.replicate_succ, Array.replicate_zero, List.push_toArray, List.append_toArray, List.nil_append, List.cons_append]
      go_wp2_with fail
      go_step3
      go_wp2_with (go_at_call 27; refine (HR.out _).mono ?_; rintro e w1 ⟨rfl, hb1⟩; have hb2 := hb1.alloc hb1.size (.cells #[.int .i64 0] 26); obtain ⟨⟨p0, p0f⟩, ⟨p1, p1f⟩⟩ := two_boxes hb2)
      go_step3
      go_wp2_with (go_at_call 31; refine (lsteps_ok _ _ _ _ (by omega) ⟨_, rfl⟩ ⟨_, _, _, rfl⟩).mono ?_; rintro e w2 ⟨rfl, hw2'⟩; have HW2 := Lib.hid hw2'; clear hw2')
      refine wpIn_wide.1 (range_raw (n := 2) (gf := 57) (lb := #[.pointer (some ⟨w1.heap.size + 1, 0, none⟩), .pointer (some ⟨w1.heap.size + 1 + 3, 0, none⟩), .pointer (some ⟨w1.heap.size + 1 + 2, 0, none⟩), .pointer (some ⟨w1.heap.size + 1 + 1, 0, none⟩)]) rfl (enters_of Try.func57 (by kernel_rfl) rfl) ?_)
      intro fn rec hrec
      have hw2 := HW2.out
      obtain ⟨W2, hW2⟩ : ∃ W2, w1.alloc (.cells #[.int .i64 0] 26) = W2 := ⟨_, rfl⟩
      have hz2 : W2.heap.size = w1.heap.size + 1 := by rw [← hW2]; simp
      have g0 : W2.heap[w1.heap.size]? = some (.cells #[.int .i64 0] 26 (0, 0)) := by rw [← hW2]; exact World.alloc_heap_new w1 _
      rw [hW2] at hw2 hb2
      obtain ⟨W, hW⟩ : ∃ W, (w2.alloc (.deferred (some []))).alloc (.loop rec) = W := ⟨_, rfl⟩
      rw [hW]
      have b5 := five_boxes W2 (.pointer (some ⟨db, 0, none⟩)) (.string p) (.slice A data.length c) (.string (tmp p)) w2 hw2
      obtain ⟨q0, q1, q2, q3, qz, qb⟩ := b5
      have hzw : w2.heap.size = W2.heap.size + 4 := qz
      have HL : W.heap[w2.heap.size + 1]? = some (.loop rec) := by rw [← hW]; have := World.alloc_heap_new (w2.alloc (.deferred (some []))) (.loop rec); rwa [World.size_alloc] at this
      have HD : W.heap[w2.heap.size]? = some (.deferred (some [])) := by rw [← hW]; exact (Below.heap_alloc _ _ _ (by simp)).trans (World.alloc_heap_new w2 _)
      have hBW : Below w2.heap.size w2 W := by rw [← hW]; exact ((Below.refl _ w2).alloc (Nat.le_refl _) _).alloc (by simp) _
      have hB2 : Below W2.heap.size W2 W := qb.trans (hBW.mono (by omega))
      have hBw : Below w.heap.size w W := ((((Below.refl _ w).alloc (Nat.le_refl _) _).alloc (by simp) _).trans (hb2.mono (by simp; omega))).trans (hB2.mono (by have := hb2.size; simp at this; omega))
      have hsz : w.heap.size + 2 ≤ w1.heap.size := by have := hb1.size; simp at this; omega
      have hnS : ∀ k, w.heap.size ≤ k → ¬ Trim S w k := fun k hk hs => by have := hs.2; omega
      have hWz : W.heap.size = w2.heap.size + 2 := by rw [← hW]; simp
      obtain ⟨R, hRR⟩ : ∃ R : Int → Dk → World → Prop, R = (fun x s' W' => W'.heap[w2.heap.size + 1]? = some (.loop { rec with state := .done, pending := some (.exit 0) }) ∧ W'.heap[w2.heap.size]? = some (.deferred (some [])) ∧ W'.heap[w1.heap.size]? = some (.cells #[.int .i64 x] 26 (0, 0)) ∧
          Disk (Grow (Trim S w) W) W' db s' ∧ Touch (fun k => Trim S w k ∨ k = w2.heap.size + 1 ∨ k = w1.heap.size) W W') := ⟨_, rfl⟩
      have HRR := Lib.hid hRR
      clear hRR
      have hit := iter_ok 1 (Trim S w) db s p data (.slice A data.length c) (w2.heap.size + 1) W (w1.heap.size + 1) (w1.heap.size + 1 + 3) (w1.heap.size + 1 + 2) (w1.heap.size + 1 + 1) N M
        R
        (h.trim.below hBw) (below_heap hBW (by rw [← hz2]; exact q0)) (below_heap hBW (by rw [← hz2]; exact q3)) (below_heap hBW (by rw [← hz2]; exact q2)) (below_heap hBW (by rw [← hz2]; exact q1))
        (hnS _ (by omega)) (hnS _ (by omega)) (hnS _ (by omega)) (hnS _ (by omega)) (hsrc.below hBw) (fun ad n c e hn hs => hout ad n c e hn hs.1) hp hfit hN hM ?go ?no
      case go =>
        intro W1 b ht
        have hl1 : W1.heap[w2.heap.size + 1]? = some (.loop rec) := ht.heap HL (hnS _ (by omega))
        refine round_raw (r := rec) hl1 (by rw [hrec]) (by rw [hrec]; rfl) ?_
        have hl3 : (W1.putObj (w2.heap.size + 1) (.loop { rec with state := .busy })).heap[w2.heap.size + 1]? = some (.loop { rec with state := .busy }) := World.putObj_heap_same (Array.getElem?_eq_some_iff.1 hl1).1
        have hbk : (W1.putObj (w2.heap.size + 1) (.loop { rec with state := .busy })).putObj (w2.heap.size + 1) (.loop rec) = W1 := putObj_back hl1
        obtain ⟨W3, hW3⟩ : ∃ W3, W1.putObj (w2.heap.size + 1) (.loop { rec with state := .busy }) = W3 := ⟨_, rfl⟩
        rw [hW3] at hl3 hbk ⊢
        have HL3 := Lib.hid hl3
        have HBK := Lib.hid hbk
        have HREC := Lib.hid hrec
        clear hl3 hbk hW3 hl1 hW hW2
        rw [hrec]
        clear hrec
        gi_wp2_with (rw [Oper.semAt_eq _ _ _ (fun c h => by cases h)]; go_simp; try go_bits)
        refine ⟨trivial, ?_⟩
        gi_wp2_with (rw [Oper.semAt_eq _ _ _ (fun c h => by cases h)]; go_simp; try go_bits)
        refine ⟨_, _, run_endRound none HL3.out, rfl, ?_⟩
        rw [← HBK.out, HREC.out]
        rfl
      case no =>
        intro W1 x b s' hx ht hd hps
        have hx0 : (x == 0) = false := beq_eq_false_iff_ne.2 hx
        have hl1 : W1.heap[w2.heap.size + 1]? = some (.loop rec) := ht.heap HL (hnS _ (by omega))
        have hd1 : W1.heap[w2.heap.size]? = some (.deferred (some [])) := ht.heap HD (hnS _ (by omega))
        have hc1 : W1.heap[w1.heap.size]? = some (.cells #[.int .i64 0] 26 (0, 0)) := ht.heap (below_heap hB2 g0) (hnS _ (by omega))
        have hb0 := ht.heap (below_heap hB2 (below_heap hb2 (alloc_heap (World.alloc_heap_new w (.cells #[.pointer (some ⟨db, 0, none⟩)] 25)) (.cells #[.string p] 9)))) (hnS _ (Nat.le_refl _))
        have hbp1 := ht.heap (below_heap hB2 (below_heap hb2 (World.alloc_heap_new (w.alloc (.cells #[.pointer (some ⟨db, 0, none⟩)] 25)) (.cells #[.string p] 9)))) (hnS _ (by simp))
        rw [World.size_alloc] at hbp1
        refine round_raw (r := rec) hl1 (by rw [hrec]) (by rw [hrec]; rfl) ?_
        obtain ⟨W3, hW3⟩ : ∃ W3, W1.putObj (w2.heap.size + 1) (.loop { rec with state := .busy }) = W3 := ⟨_, rfl⟩
        have hl3 : W3.heap[w2.heap.size + 1]? = some (.loop { rec with state := .busy }) := by rw [← hW3]; exact World.putObj_heap_same (Array.getElem?_eq_some_iff.1 hl1).1
        have ot : ∀ k o, k ≠ w2.heap.size + 1 → W1.heap[k]? = some o → W3.heap[k]? = some o := fun k o hk ho => by rw [← hW3]; exact (World.putObj_heap_other hk).trans ho
        have t3 : Touch (fun k => Trim S w k ∨ k = w2.heap.size + 1 ∨ k = w1.heap.size) W W3 := by
          rw [← hW3]
          exact (ht.mono (fun k _ hk => .inl hk)).putObj (.inl (.inr (.inl rfl))) _
        have hd3 : Disk (Grow (Trim S w) W) W3 db s' := hd.keep (fun _ hk => hk) (fun k hk hlt => by
          rw [← hW3]
          exact World.putObj_heap_other (fun e => by rcases hk with hk | hk; exact hnS k (by omega) hk; omega))
        have hd4 := ot _ _ (by omega) hd1
        have hc4 := ot _ _ (by omega) hc1
        have hb4 := ot _ _ (by omega) hb0
        have hp4 := ot _ _ (by omega) hbp1
        rw [hW3]
        have HL3 := Lib.hid hl3
        have HD4 := Lib.hid hd4
        have HD3 := Lib.hid hd3
        have HREC := Lib.hid hrec
        obtain ⟨v0, f0⟩ : W3.cell? ⟨w.heap.size, 0, none⟩ = some (.pointer (some ⟨db, 0, none⟩)) ∧ W3.frozen? ⟨w.heap.size, 0, none⟩ = false := ⟨by simp [World.cell?, hb4], by simp [World.frozen?, hb4]⟩
        obtain ⟨v1, f1⟩ : W3.cell? ⟨w.heap.size + 1, 0, none⟩ = some (.string p) ∧ W3.frozen? ⟨w.heap.size + 1, 0, none⟩ = false := ⟨by simp [World.cell?, hp4], by simp [World.frozen?, hp4]⟩
        obtain ⟨v2, f2⟩ : W3.cell? ⟨w1.heap.size, 0, none⟩ = some (.int .i64 0) ∧ W3.frozen? ⟨w1.heap.size, 0, none⟩ = false := ⟨by simp [World.cell?, hc4], by simp [World.frozen?, hc4]⟩
        have HC4 := Lib.hid hc4
        have HZ := Lib.hid (show w1.heap.size < w2.heap.size ∧ w.heap.size + 2 ≤ w1.heap.size ∧ W.heap.size = w2.heap.size + 2 from by omega)
        clear hl3 hd4 hd3 hW3 hl1 hd1 hc1 hb0 hbp1 hb4 hp4 hc4 hW hW2 ot hz2 hzw hWz qz hw2 p0 p1 p0f p1f q0 q1 q2 q3 g0 HL HD
        rw [hrec]
        clear hrec
        obtain ⟨W4, hW4⟩ : ∃ W4, W3.setCell ⟨w1.heap.size, 0, none⟩ (.int .i64 x) = W4 := ⟨_, rfl⟩
        have hz := HZ.out
        have sk : ∀ k o, k ≠ w1.heap.size → W3.heap[k]? = some o → W4.heap[k]? = some o := fun k o hk ho => by rw [← hW4]; exact (Below.heap_setCell _ _ _ _ hk).trans ho
        have l4 := sk _ _ (by omega) HL3.out
        have d4 := sk _ _ (by omega) HD4.out
        have c4 : W4.heap[w1.heap.size]? = some (.cells #[.int .i64 x] 26 (0, 0)) := by rw [← hW4]; exact heap_setCell8 HC4.out 0 _
        have t4 : Touch (fun k => Trim S w k ∨ k = w2.heap.size + 1 ∨ k = w1.heap.size) W W4 := by rw [← hW4]; exact t3.set1 _ 0 (.inl (.inr (.inr rfl))) _
        have k4 : Disk (Grow (Trim S w) W) W4 db s' := HD3.out.keep (fun _ hk => hk) (fun k hk hlt => by
          rw [← hW4]
          exact Below.heap_setCell _ _ _ _ (fun e => by rcases hk with hk | hk; exact hnS k (by rw [e]; show w.heap.size ≤ w1.heap.size; omega) hk; have e' : k = w1.heap.size := e; omega))
        have w0 : W4.cell? ⟨w.heap.size, 0, none⟩ = some (.pointer (some ⟨db, 0, none⟩)) := by rw [← hW4]; exact (World.cell?_of_block (Below.heap_setCell _ _ _ _ (show w.heap.size ≠ w1.heap.size by omega))).trans v0
        have w1' : W4.cell? ⟨w.heap.size + 1, 0, none⟩ = some (.string p) := by rw [← hW4]; exact (World.cell?_of_block (Below.heap_setCell _ _ _ _ (show w.heap.size + 1 ≠ w1.heap.size by omega))).trans v1
        have L4 := Lib.hid l4
        have D4 := Lib.hid d4
        have C4 := Lib.hid c4
        have K4 := Lib.hid k4
        have HW4 := Lib.hid hW4
        clear l4 d4 c4 k4 hW4 hz sk
        cases b with
        | true =>
          gi_wp2_with (rw [Oper.semAt_eq _ _ _ (fun c h => by cases h)]; go_simp; try go_bits)
          refine ⟨trivial, ?_⟩
          gi_wp2_with (rw [Oper.semAt_eq _ _ _ (fun c h => by cases h)]; go_simp; try go_bits)
          rw [HW4.out]
          refine ⟨_, _, run_endRound (some (.exit 0)) L4.out, rfl, ?_⟩
          have hz := HZ.out
          rw [HRR.out]
          exact ⟨World.putObj_heap_same (Array.getElem?_eq_some_iff.1 L4.out).1, (World.putObj_heap_other (by omega)).trans D4.out, (World.putObj_heap_other (by omega)).trans C4.out,
            K4.out.keep (fun _ hk => hk) (fun k hk hlt => World.putObj_heap_other (fun e => by rcases hk with hk | hk; exact hnS k (by omega) hk; omega)), t4.putObj (.inl (.inr (.inl rfl))) _⟩
        | false =>
          gi_wp2_with (rw [Oper.semAt_eq _ _ _ (fun c h => by cases h)]; go_simp; try go_bits)
          first | skip | (refine ⟨trivial, ?_⟩; gi_wp2)
          rw [HW4.out]
          have hrem : ∀ nq, Calls Try.prog 32 #[.pointer (some ⟨db, 0, none⟩), .string (tmp p)] (W4.drewN nq) fun e w' => (∃ y, e = .returned (.int .i64 y)) ∧ Disk (Grow (Trim S w) W) w' db (remove (tmp p) s').2 ∧ Touch (Grow (Trim S w) W) W4 w' := fun nq => by
            obtain ⟨r4, k4⟩ := K4.out
            refine (remove_ok (Grow (Trim S w) W) db s' r4 (tmp p) (W4.drewN nq) (k4.keep (fun _ hs => hs) (fun _ _ _ => rfl)) (by unfold tmp; have : (⟨#[46, 116, 109, 112]⟩ : ByteArray).size = 4 := rfl; simp; omega) (by omega)).mono ?_
            rintro e w' ⟨rfl, hq1, hq2⟩
            exact ⟨⟨_, rfl⟩, hq1.grow t4.size, ((Touch.refl _ W4).drewN nq).trans (hq2.mono (fun k _ hk => .inl hk))⟩
          have HREM := Lib.hid hrem
          clear hrem
          gi_region_with (first | (rw [Oper.semAt_eq _ _ _ (fun c h => by cases h)]; go_simp; try go_bits) | (refine ⟨trivial, ?_⟩; gi_at_call 30; refine (CallsIn.inRound _ (callsIn_wide.2 (temp_ok _ _ (by omega)))).mono ?_; rintro e w' ⟨rfl, rfl⟩) | (refine ⟨trivial, ?_⟩; gi_at_call 32; refine (CallsIn.inRound _ (callsIn_wide.2 (HREM.out 1))).mono ?_; rintro e w5 ⟨⟨y, rfl⟩, hd5, ht5⟩))
          all_goals
            gi_wp2_with (rw [Oper.semAt_eq _ _ _ (fun c h => by cases h)]; go_simp; try go_bits)
            have hz := HZ.out
            have hnG : ∀ k, w.heap.size ≤ k → k < W.heap.size → ¬ Grow (Trim S w) W k := fun k h1 h2 hk => by rcases hk with hk | hk; exact hnS k h1 hk; omega
            have l5 := ht5.heap L4.out (hnG _ (by omega) (by omega))
            have d5 := ht5.heap D4.out (hnG _ (by omega) (by omega))
            have c5 := ht5.heap C4.out (hnG _ (by omega) (by omega))
            have t5 : Touch (fun k => Trim S w k ∨ k = w2.heap.size + 1 ∨ k = w1.heap.size) W w5 := t4.trans (ht5.mono (fun k _ hk => by rcases hk with hk | hk; exact .inl (.inl hk); exact .inr hk))
            refine ⟨_, _, run_endRound (some (.exit 0)) l5, rfl, ?_⟩
            rw [HRR.out]
            exact ⟨World.putObj_heap_same (Array.getElem?_eq_some_iff.1 l5).1, (World.putObj_heap_other (by omega)).trans d5, (World.putObj_heap_other (by omega)).trans c5,
              hd5.keep (fun _ hk => hk) (fun k hk hlt => World.putObj_heap_other (fun e => hnG k (by omega) (by omega) hk)), t5.putObj (.inl (.inr (.inl rfl))) _⟩
      refine hit.mono ?_
      rintro e W5 ⟨⟨u, rfl⟩, (⟨hz, ht, hd⟩ | ⟨hz, hr5⟩)⟩
      · have l5 := ht.heap HL (hnS _ (by omega))
        have d5 := ht.heap HD (hnS _ (by omega))
        have c5 := ht.heap (below_heap hB2 g0) (hnS _ (by omega))
        have hend := run_endLoop (P := Try.prog) l5 (by rw [hrec]; simp)
        obtain ⟨W6, hW6⟩ : ∃ W6, W5.putObj (w2.heap.size + 1) (.loop { rec with state := .exhausted }) = W6 := ⟨_, rfl⟩
        rw [hW6] at hend
        have d6 : W6.heap[w2.heap.size]? = some (.deferred (some [])) := by rw [← hW6]; exact (World.putObj_heap_other (by omega)).trans d5
        have c6 : W6.heap[w1.heap.size]? = some (.cells #[.int .i64 0] 26 (0, 0)) := by rw [← hW6]; exact (World.putObj_heap_other (by omega)).trans c5
        have hp' : rec.pending = none := by rw [hrec]
        rw [hp'] at hend
        refine ⟨none, W6, hend, ?_⟩
        have v6 : W6.cell? ⟨w1.heap.size, 0, none⟩ = some (.int .i64 0) := by simp [World.cell?, c6]
        have D6 := Lib.hid d6
        have HZ := Lib.hid (show w1.heap.size < w2.heap.size ∧ w.heap.size + 2 ≤ w1.heap.size ∧ W.heap.size = w2.heap.size + 2 from by omega)
        have HRES := Lib.hid hz
        have HW6 := Lib.hid hW6
        clear hend c6 d6 l5 d5 c5 hW6 hz HL HD g0 hz2 hzw hWz qz hw2 hW hW2 q0 q1 q2 q3 hp' p0 p1 p0f p1f
        dsimp only
        go_wp2
        refine ⟨by simp, .inl ⟨_, _, rfl, run_takeDeferred D6.out, ?_⟩⟩
        have hz := HZ.out
        have hnG : ∀ k, w.heap.size ≤ k → k < W.heap.size → ¬ Grow (Trim S w) W k := fun k h1 h2 hk => by rcases hk with hk | hk; exact hnS k h1 hk; omega
        have hws := hBw.size
        refine ⟨_, results_tmp rfl _ _ _, by rw [HRES.out]; rfl, ?_, ?_⟩
        · rw [← HW6.out]
          refine ((hd.keep (w' := W5.putObj (w2.heap.size + 1) (.loop { rec with state := .exhausted })) (fun _ hk => hk) (fun k hk hlt => World.putObj_heap_other (fun e => hnG k (by omega) (by omega) hk))).keep (fun _ hk => hk) (fun k hk hlt => World.putObj_heap_other (fun e => hnG k (by omega) (by omega) hk))).mono ?_
          intro k hk
          rcases hk with hk | hk
          · exact .inl hk.1
          · exact .inr (by omega)
        · rw [← HW6.out]
          exact (((Touch.of_below (S := S) hBw).trans (ht.mono (fun k hk hs => .inl hs.1))).putObj (.inr (by omega)) _).putObj (.inr (by omega)) _
      · have HRES := Lib.hid hz
        rw [HRR.out] at hr5
        obtain ⟨l5, d5, c5, hd, ht⟩ := hr5
        have hend := run_endLoop (P := Try.prog) l5 (by simp)
        obtain ⟨W6, hW6⟩ : ∃ W6, W5.putObj (w2.heap.size + 1) (.loop { rec with state := .exhausted, pending := some (.exit 0) }) = W6 := ⟨_, rfl⟩
        replace hend : (Instr.endLoop (w2.heap.size + 1)).run Try.prog W5 = .ok (some (.exit 0)) W6 := by rw [← hW6]; exact hend
        have d6 : W6.heap[w2.heap.size]? = some (.deferred (some [])) := by rw [← hW6]; exact (World.putObj_heap_other (by omega)).trans d5
        have c6 : W6.heap[w1.heap.size]? = some (.cells #[.int .i64 (saveOps p data s).1] 26 (0, 0)) := by rw [← hW6]; exact (World.putObj_heap_other (by omega)).trans c5
        refine ⟨some (.exit 0), W6, hend, ?_⟩
        obtain ⟨X, hX⟩ : ∃ X, X = (saveOps p data s).1 := ⟨_, rfl⟩
        have v6 : W6.cell? ⟨w1.heap.size, 0, none⟩ = some (.int .i64 X) := by rw [hX]; simp [World.cell?, c6]
        have HX := Lib.hid hX
        clear hX
        have D6 := Lib.hid d6
        have HZ := Lib.hid (show w1.heap.size < w2.heap.size ∧ w.heap.size + 2 ≤ w1.heap.size ∧ W.heap.size = w2.heap.size + 2 from by omega)
        have HW6 := Lib.hid hW6
        clear hend c6 d6 l5 d5 c5 hW6 hz HL HD g0 hz2 hzw hWz qz hw2 hW hW2 q0 q1 q2 q3 p0 p1 p0f p1f
        dsimp only
        refine wpIn_wide.2 ?_
        go_wp2
        refine ⟨by simp, .inl ⟨_, _, rfl, run_takeDeferred D6.out, ?_⟩⟩
        have hz := HZ.out
        have hnG : ∀ k, w.heap.size ≤ k → k < W.heap.size → ¬ Grow (Trim S w) W k := fun k h1 h2 hk => by rcases hk with hk | hk; exact hnS k h1 hk; omega
        have hws := hBw.size
        refine ⟨_, results_tmp rfl _ _ _, by rw [← HX.out]; rfl, ?_, ?_⟩
        · rw [← HW6.out]
          refine ((hd.keep (w' := W5.putObj (w2.heap.size + 1) (.loop { rec with state := .exhausted, pending := some (.exit 0) })) (fun _ hk => hk) (fun k hk hlt => World.putObj_heap_other (fun e => hnG k (by omega) (by omega) hk))).keep (fun _ hk => hk) (fun k hk hlt => World.putObj_heap_other (fun e => hnG k (by omega) (by omega) hk))).mono ?_
          intro k hk
          rcases hk with hk | hk
          · exact .inl hk.1
          · exact .inr (by omega)
        · rw [← HW6.out]
          exact (((Touch.of_below (S := S) hBw).trans (ht.mono (fun k hk hs => (by rcases hs with hs | hs | hs; exact .inl hs.1; exact .inr (by omega); exact .inr (by omega))))).putObj (.inr (by omega)) _).putObj (.inr (by omega)) _
  · have hr' : right p = false := by simpa using hr
    have HE : save p data s = (1, s) := by simp [save_eq, hr']
    rw [HE]
    rw [hr'] at hR
    have HR := Lib.hid hR
    clear HE hR
    unfold fptr
    refine (callsIn_wide (n := 3)).1 (callsIn_of_wp_marks Try.func8 rfl trivial (wpIn_wide.2 ?_) rfl)
    simp only [Try.ntmps8, List.size_toArray, List.length_cons, List.length_nil, Nat.reduceAdd, Nat.reduceSub, Array.replicate_succ, Array.replicate_zero, List.push_toArray, List.append_toArray, List.nil_append, List.cons_append]
    go_wp2_with fail
    go_step3
    go_wp2_with (go_at_call 27; refine (HR.out _).mono ?_; rintro e w1 ⟨rfl, hb1⟩)
    rw [Exit.noGoto_ret]
    have hB : Below w.heap.size w w1 := (((Below.refl _ w).alloc (Nat.le_refl _) _).alloc (by simp) _).trans (hb1.mono (by simp; omega))
    exact ⟨_, results_tmp rfl _ _ _, rfl, (h.below hB).mono (fun _ hs => .inl hs), Touch.of_below hB⟩
end Go.Proofs.Ythdncdhgnoggkaa
